/-
  What is proved here: composite values, appends and the other operations of the abstract evaluator stand for the model's; all operations together. A text to be imported.
-/
import Derived.Test.YtgpbpgbokfdbeaaDoorSimE
import Derived.Laws.BytesString
import Derived.Laws.MakeOwn
namespace Sm
set_option linter.unusedSimpArgs false
open Go Go.RowKit

section ops
variable {P : Program} {T : Tab} {B : Nat} {w0 : World} {E : Env} {hp : List Blk} {w : World} {K : Post} {a : Act} {tm : Tm}

theorem foldl_set {vs : List Value} : ∀ (k off : Nat) (cs : Array Value), off + k + vs.length ≤ cs.size →
    ((vs.zipIdx k).foldl (fun cs (p : Value × Nat) => cs.setIfInBounds (off + p.2) p.1) cs).toList = cs.toList.take (off + k) ++ vs ++ cs.toList.drop (off + k + vs.length) := by
  induction vs with
  | nil => intro k off cs h; simp
  | cons v vs ih =>
    intro k off cs h
    simp only [List.length_cons] at h
    simp only [List.zipIdx_cons, List.foldl_cons]
    rw [show off + k = off + k from rfl, ih (k + 1) off (cs.setIfInBounds (off + k) v) (by simp; omega)]
    have hlt : off + k < cs.toList.length := by simp; omega
    apply List.ext_getElem?
    intro j
    simp only [Array.toList_setIfInBounds, List.getElem?_append, List.getElem?_take, List.getElem?_drop, List.getElem?_set, List.length_append, List.length_take, List.length_set, List.length_cons, Array.length_toList]
    by_cases h1 : j < off + k
    · simp [show j < off + (k + 1) from by omega, show min (off + (k + 1)) cs.size = off + (k + 1) from by omega, show min (off + k) cs.size = off + k from by omega, h1, show ¬ off + k = j from by omega, show j < off + (k + 1) + vs.length from by omega, show j < off + k + (vs.length + 1) from by omega]
    · by_cases h2 : j = off + k
      · subst h2
        simp [show min (off + (k + 1)) cs.size = off + (k + 1) from by omega, show min (off + k) cs.size = off + k from by omega, show off + k < cs.size from by omega]
        intro hbad
        omega
      · simp only [show min (off + (k + 1)) cs.size = off + (k + 1) from by omega, show min (off + k) cs.size = off + k from by omega, show ¬ (j < off + (k + 1)) from by omega, h1, if_false]
        by_cases h3 : j < off + (k + 1) + vs.length
        · rw [if_pos h3, if_pos (by omega)]
          rw [show j - (off + k) = (j - (off + (k + 1))) + 1 from by omega]
          simp
        · rw [if_neg h3, if_neg (by omega), if_neg (by omega)]
          congr 1
          omega

theorem fill_run {E : Env} (place placeA : Nat → Option (Nat × Nat)) (hpl : ∀ i, placeA i = none ∨ placeA i = place i) : ∀ (parts : List (Nat × AV)) (us : List (Nat × Value)) (cs cs' : List C1) (vs : Array Value),
    parts.length = us.length → (∀ (j : Nat) (p : Nat × AV) (q : Nat × Value), parts[j]? = some p → us[j]? = some q → p.1 = q.1 ∧ RV E p.2 q.2) → RCs E cs vs.toList → fillA placeA cs parts = some cs' →
    ∃ vs', Instr.fill place vs us = some vs' ∧ RCs E cs' vs'.toList
  | [], us, cs, cs', vs, hl, _, hc, h => by
    have : us = [] := List.eq_nil_of_length_eq_zero (by simpa using hl.symm)
    subst this
    simp only [fillA, Option.some.injEq] at h; subst h
    exact ⟨vs, rfl, hc⟩
  | (i, v) :: rest, us, cs, cs', vs, hl, hp, hc, h => by
    cases us with
    | nil => simp at hl
    | cons q us =>
      obtain ⟨i', u⟩ := q
      obtain ⟨h1, h2⟩ := hp 0 (i, v) (i', u) rfl rfl
      simp only at h1 h2
      subst h1
      simp only [fillA] at h
      split at h
      · rename_i off size ds hpl1 hds
        split at h
        · rename_i hcond
          have hpl2 : place i = some (off, size) := by
            rcases hpl i with e | e
            · rw [e] at hpl1; cases hpl1
            · rw [← e]; exact hpl1
          have hrd := cells_RV hds h2
          have hlen : u.cells.size = size := by rw [← Array.length_toList, ← hrd.1]; exact hcond.1
          have hlv : vs.size = cs.length := by rw [hc.1]; simp
          have hfold := foldl_set (vs := u.cells.toList) 0 off vs (by simp; omega)
          have hrc := hc.splice hrd off
          simp only [Nat.add_zero] at hfold
          rw [← hfold] at hrc
          obtain ⟨vs', hf, hr⟩ := fill_run place placeA hpl rest us (splice cs off ds) cs' _ (by simpa using hl) (fun j p q hj hq => hp (j + 1) p q (by simpa using hj) (by simpa using hq)) hrc h
          refine ⟨vs', ?_, hr⟩
          simp only [Instr.fill, hpl2]
          rw [if_neg (by simp [hlen]; omega)]
          have e : (u.cells.zipIdx).foldl (fun cs (c, j) => cs.setIfInBounds (off + j) c) vs = (u.cells.toList.zipIdx 0).foldl (fun cs (p : Value × Nat) => cs.setIfInBounds (off + p.2) p.1) vs := by
            rw [← Array.foldl_toList]
            simp
          rw [e]
          exact hf
        · cases h
      · cases h

def sizeT (T : Tab) (t : TypeId) : Nat := match T.ty t with
  | some ti => ti.size
  | none => 0

theorem places_run (hT : TabOk P T) (fs : Array Field) (hall : ∀ f ∈ fs.toList, ∃ fi, T.ty f.type = some fi) (w : World) :
    (fs.mapM fun f => (do pure (f.offset, ← Go.sizeOf f.type) : Sem (Nat × Nat))).run P w = .ok (fs.map fun f => (f.offset, sizeT T f.type)) w := by
  have key : ∀ (l : List Field), (∀ f ∈ l, ∃ fi, T.ty f.type = some fi) → (l.mapM fun f => (do pure (f.offset, ← Go.sizeOf f.type) : Sem (Nat × Nat))).run P w = .ok (l.map fun f => (f.offset, sizeT T f.type)) w := by
    intro l
    induction l with
    | nil => intro _; rfl
    | cons f l ih =>
      intro hl
      obtain ⟨fi, hfi⟩ := hl f (by simp)
      obtain ⟨_, inf, hinf, hsz, _⟩ := hT.ty f.type fi hfi
      have ih' := ih fun g hg => hl g (by simp [hg])
      simp only [List.mapM_cons, Sem.run_bind, sizeOf_run hinf, Result.andThen_ok, Sem.run_pure, ih', List.map_cons, sizeT, hfi, hsz]
  rw [Array.mapM_eq_mapM_toList]
  rw [Sem.run_map, key fs.toList hall]
  simp only [Result.andThen_ok]
  congr 1
  apply Array.ext'
  simp

theorem fillA_len (place : Nat → Option (Nat × Nat)) : ∀ (parts : List (Nat × AV)) (cs cs' : List C1), fillA place cs parts = some cs' → cs'.length = cs.length
  | [], cs, cs', h => by simp only [fillA, Option.some.injEq] at h; subst h; rfl
  | (i, v) :: rest, cs, cs', h => by
    simp only [fillA] at h
    split at h
    · split at h
      · rename_i hc
        rw [fillA_len place rest _ _ h]
        simp [splice]; omega
      · cases h
    · cases h

theorem build_sound (hT : TabOk P T) (_hh : RH B w0 E hp w) (ht : RT E tm a.tmps) (o : Oper) {t : TypeId} {parts : Array (Nat × Operand)} (ho : o.op = .build t parts) (h : opK0 P T o tm hp K) : QOut P K E hp w (execOp a.eval o) := by
  simp only [opK0, ho, opPick, opExtract, opAlloc, opBox, opLoad, opStore, opNil, opFAddr, opField, opIAddr, opIndex, opBuild, opBSlice, opSlice, opMkFunc, opMakeSlice, opCall, opConv] at h
  split at h
  · rename_i ti hti
    split at h
    · exact h.elim
    · rename_i hne
      obtain ⟨hu, inf, hinf, hsz, _, hz⟩ := hT.ty t ti hti
      obtain ⟨z, vs, hzz, hall, hcs, hone, hlen⟩ := hz (by intro e1; rw [e1] at hne; exact hne rfl)
      have hrc : RCs E ti.zero z.cells.toList := hcs ▸ allV_RCs hall hone
      have hparts : ∀ (j : Nat) (p : Nat × AV) (q : Nat × Value), (parts.toList.map fun p => (p.1, evalO tm p.2))[j]? = some p → (parts.toList.map fun p => (p.1, a.eval p.2))[j]? = some q → p.1 = q.1 ∧ RV E p.2 q.2 := fun j p q h1 h2 => by
        simp only [List.getElem?_map, Option.map_eq_some_iff] at h1 h2
        obtain ⟨x, hx, rfl⟩ := h1
        obtain ⟨y, hy, rfl⟩ := h2
        rw [hx] at hy
        obtain rfl := Option.some.inj hy
        exact ⟨rfl, ht.eval _⟩
      split at h
      · rename_i fs hd
        rw [hd] at hu
        split at h
        · exact h.elim
        · rename_i hallf
          have hallf' : ∀ f ∈ fs.toList, ∃ fi, T.ty f.type = some fi := fun f hf => by
            have h0 : (fs.toList.all fun f => (T.ty f.type).isSome) = true := by
              cases hq : (fs.toList.all fun f => (T.ty f.type).isSome) with
              | true => rfl
              | false => rw [hq] at hallf; exact absurd rfl hallf
            exact Option.isSome_iff_exists.1 (List.all_eq_true.1 h0 f hf)
          split at h
          · rename_i cs hfill
            have hpl := places_run hT fs hallf'
            have hpl2 : ∀ i : Nat, ((fs[i]?).bind fun (f : Field) => (T.ty f.type).map fun (fi : TI) => (f.offset, fi.size)) = (fs.map fun (f : Field) => (f.offset, sizeT T f.type))[i]? := fun i => by
              simp only [Array.getElem?_map]
              cases hfi : fs[i]? with
              | none => rfl
              | some f =>
                obtain ⟨fi, hfi2⟩ := hallf' f (by
                  have := Array.mem_of_getElem? hfi
                  simpa using this)
                simp [hfi2, sizeT]
            obtain ⟨vs', hf, hr⟩ := fill_run (fun i => (fs.map fun f => (f.offset, sizeT T f.type))[i]?) _ (fun i => .inr (hpl2 i)) _ (parts.toList.map fun p => (p.1, a.eval p.2)) ti.zero cs z.cells (by simp) hparts hrc hfill
            refine ⟨_, .agg vs', h, ⟨vs'.toList, by simp, hr⟩, fun w' hw' => ?_⟩
            simp only [execOp, ho, Instr.build, Sem.run_bind, zeroValue_run hinf hzz, Result.andThen_ok, run_underlying hu, Array.toList_map]
            rw [hpl]
            simp only [Result.andThen_ok]
            rw [hf]
            simp only [Sem.run_pure, Result.andThen_ok]
          · exact h.elim
      · rename_i n e hd
        rw [hd] at hu
        split at h
        · rename_i ei hei
          obtain ⟨hu2, inf2, hinf2, hsz2, _⟩ := hT.ty e ei hei
          split at h
          · rename_i cs hfill
            obtain ⟨vs', hf, hr⟩ := fill_run (fun i => some (i * ei.size, ei.size)) _ (fun i => .inr rfl) _ (parts.toList.map fun p => (p.1, a.eval p.2)) ti.zero cs z.cells (by simp) hparts hrc hfill
            refine ⟨_, .agg vs', h, ⟨vs'.toList, by simp, hr⟩, fun w' hw' => ?_⟩
            simp only [execOp, ho, Instr.build, Sem.run_bind, zeroValue_run hinf hzz, Result.andThen_ok, run_underlying hu, sizeOf_run hinf2, hsz2, Array.toList_map]
            rw [hf]
            simp only [Sem.run_pure, Result.andThen_ok]
          · exact h.elim
        · exact h.elim
      · exact h.elim
  · exact h.elim

theorem repeat_run {E : Env} {cs : List C1} {vs : Array Value} (h : RCs E cs vs.toList) (n : Nat) :
    RCs E (repeatC cs n) ((Array.range (n * vs.size)).map (fun i => vs[i % vs.size]!)).toList := by
  have key : ∀ n, RCs E (repeatC cs n) ((List.range (n * vs.size)).map (fun i => vs[i % vs.size]!)) := by
    intro n
    induction n with
    | zero => simpa [repeatC] using RCs.nil E
    | succ n ih =>
      have e : (List.range ((n + 1) * vs.size)).map (fun i => vs[i % vs.size]!) = vs.toList ++ (List.range (n * vs.size)).map (fun i => vs[i % vs.size]!) := by
        apply List.ext_getElem?
        intro j
        rw [List.getElem?_append]
        simp only [List.getElem?_map, Array.length_toList]
        have hsucc : (n + 1) * vs.size = n * vs.size + vs.size := by rw [Nat.add_mul]; omega
        by_cases hj : j < vs.size
        · rw [if_pos hj]
          simp [show j < (n + 1) * vs.size from by omega, Nat.mod_eq_of_lt hj, hj]
        · rw [if_neg hj]
          by_cases hj2 : j < (n + 1) * vs.size
          · simp only [hj2, show j - vs.size < n * vs.size from by omega, List.getElem?_range, Option.map_some]
            rw [Nat.mod_eq_sub_mod (by omega)]
          · simp [hj2, show ¬ (j - vs.size < n * vs.size) from by omega]
      rw [e]
      exact h.append ih
  have := key n
  simpa using this

theorem buildSlice_sound (hT : TabOk P T) (hh : RH B w0 E hp w) (ht : RT E tm a.tmps) (o : Oper) {t : TypeId} {len : Nat} {parts : Array (Nat × Operand)} (ho : o.op = .buildSlice t len parts) (h : opK0 P T o tm hp K) : Out K B w0 E ((execOp a.eval o).run P w) := by
  simp only [opK0, ho, opPick, opExtract, opAlloc, opBox, opLoad, opStore, opNil, opFAddr, opField, opIAddr, opIndex, opBuild, opBSlice, opSlice, opMkFunc, opMakeSlice, opCall, opConv] at h
  split at h
  · rename_i ti hti
    obtain ⟨hu, _⟩ := hT.ty t ti hti
    split at h
    · rename_i e hd
      rw [hd] at hu
      split at h
      · rename_i ei hei
        obtain ⟨hu2, inf, hinf, hsz, _, hz⟩ := hT.ty e ei hei
        split at h
        · rename_i he0
          obtain ⟨hl0, hp0⟩ := he0
          subst hl0
          have hpn : parts.toList = [] := List.length_eq_zero_iff.1 hp0
          have hz0 : ¬ (0 : Nat) > 2 ^ 24 := by omega
          simp only [execOp, ho, Instr.buildSlice, Sem.run_bind, run_underlying hu, Result.andThen_ok, sizeOf_run hinf, hsz, Nat.zero_mul, if_neg hz0, if_true, Sem.run_pure, Array.toList_map, hpn, List.map_nil]
          have hf : ∀ (g : Nat → Option (Nat × Nat)) (z : Array Value), Instr.fill g ((Array.range 0).map (z[· % z.size]!)) [] = some #[] := fun g z => by unfold Instr.fill; simp
          simp only [hf]
          simp only [newRow, run_newObj, Sem.run_bind, Result.andThen_ok, Sem.run_pure]
          have hpre : E <+: E ++ [EB.at w.heap.size 0 (#[] : Array Value).size] := ⟨_, rfl⟩
          refine ⟨_, _, E ++ [EB.at w.heap.size 0 (#[] : Array Value).size], _, _, .inl rfl, h, hpre, ?_, hh.new #[] e [] (by simp) ⟨rfl, fun j c v hc => by cases hc⟩⟩
          exact ⟨EB.at w.heap.size 0 0, by rw [List.getElem?_append_right (by rw [hh.len]; exact Nat.le_refl _), hh.len]; simp, rfl⟩
        split at h
        · exact h.elim
        · rename_i hcond
          simp only [not_or, Decidable.not_not, Nat.not_lt] at hcond
          obtain ⟨hc1, hc2, hc3, hc4⟩ := hcond
          have hcs0 : ei.zero ≠ [] := by intro e1; rw [e1] at hc2; simp at hc2; omega
          obtain ⟨z, vs, hzz, hall, hcs, hone, hlen⟩ := hz hcs0
          have hrc : RCs E ei.zero z.cells.toList := hcs ▸ allV_RCs hall hone
          have hzs : z.cells.size = ei.size := by rw [← Array.length_toList, ← hrc.1]; exact hlen
          split at h
          · rename_i cs hfill
            have hparts : ∀ (j : Nat) (p : Nat × AV) (q : Nat × Value), (parts.toList.map fun p => (p.1, evalO tm p.2))[j]? = some p → (parts.toList.map fun p => (p.1, a.eval p.2))[j]? = some q → p.1 = q.1 ∧ RV E p.2 q.2 := fun j p q h1 h2 => by
              simp only [List.getElem?_map, Option.map_eq_some_iff] at h1 h2
              obtain ⟨x, hx, rfl⟩ := h1
              obtain ⟨y, hy, rfl⟩ := h2
              rw [hx] at hy
              obtain rfl := Option.some.inj hy
              exact ⟨rfl, ht.eval _⟩
            have hrep := repeat_run hrc len
            obtain ⟨vs', hf, hr⟩ := fill_run (fun i => some (i * ei.size, ei.size)) _ (fun i => .inr rfl) _ (parts.toList.map fun p => (p.1, a.eval p.2)) _ cs _ (by simp) hparts hrep hfill
            have hsize : vs'.size = len * ei.size := by
              rw [← Array.length_toList, ← hr.1, fillA_len _ _ _ _ hfill, hrep.1]
              simp [hzs]
            have hnz : ¬ len * ei.size > 2 ^ 24 := by omega
            simp only [execOp, ho, Instr.buildSlice, Sem.run_bind, run_underlying hu, Result.andThen_ok, sizeOf_run hinf, hsz, if_neg hnz, Sem.run_pure, Array.toList_map]
            have h0 : ¬ len * ei.size = 0 := fun h0 => (Nat.mul_eq_zero.1 h0).elim hc4 hc1
            simp only [if_neg h0, Sem.run_bind, zeroValue_run hinf hzz, Result.andThen_ok, Sem.run_pure]
            rw [hzs] at hf
            simp only [hzs, hf]
            simp only [newRow, run_newObj, Sem.run_bind, Result.andThen_ok, Sem.run_pure]
            have hpre : E <+: E ++ [EB.at w.heap.size 0 vs'.size] := ⟨_, rfl⟩
            refine ⟨_, _, E ++ [EB.at w.heap.size 0 vs'.size], _, _, .inl rfl, h, hpre, ?_, hh.new vs' e cs (by rw [hr.1]; simp) (by rw [hr.1, List.take_length]; exact hr)⟩
            refine ⟨EB.at w.heap.size 0 vs'.size, len, by rw [List.getElem?_append_right (by rw [hh.len]; exact Nat.le_refl _), hh.len]; simp, rfl, Nat.le_refl _, ?_, by simp [hsize]⟩
            have : len ≤ len * ei.size := Nat.le_mul_of_pos_right _ (by omega)
            unfold maxLen
            omega
          · exact h.elim
      · exact h.elim
    · exact h.elim
  · exact h.elim

theorem take_all {α : Type} {l : List α} {n : Nat} (h : l.length = n) : l.take n = l := by rw [← h, List.take_length]

theorem env_last {α : Type} (E : List α) (x : α) (n : Nat) (h : E.length = n) : (E ++ [x])[n]? = some x := by
  subst h; simp

/-- A block under another number. -/
theorem RH.move (h : RH B w0 E hp w) {i : Nat} {b : Blk} {e : EB} (hi : hp[i]? = some b) (he : E[i]? = some e) (hnm : ∀ l, b.body ≠ .mp l) :
    RH B w0 (E ++ [e]) (hp.set i { b with live := false } ++ [b]) w := by
  have hlt : i < hp.length := (List.getElem?_eq_some_iff.1 hi).1
  have hpre : E <+: E ++ [e] := ⟨_, rfl⟩
  -- where a live block of the new memory comes from
  have from_ : ∀ (k : Nat) (x : Blk) (ek : EB), (hp.set i { b with live := false } ++ [b])[k]? = some x → (E ++ [e])[k]? = some ek → x.live = true →
      ∃ k', hp[k']? = some x ∧ E[k']? = some ek ∧ ((k = k' ∧ k ≠ i ∧ k < hp.length) ∨ (k = hp.length ∧ k' = i)) := fun k x ek hx hek hlx => by
    by_cases hk : k < hp.length
    · rw [List.getElem?_append_left (by simpa using hk)] at hx
      rw [List.getElem?_append_left (by rw [h.len]; exact hk)] at hek
      by_cases hik : i = k
      · subst hik
        rw [List.getElem?_set_self hlt] at hx
        simp only [Option.some.injEq] at hx
        subst hx
        cases hlx
      · rw [List.getElem?_set_ne hik] at hx
        exact ⟨k, hx, hek, .inl ⟨rfl, Ne.symm hik, hk⟩⟩
    · rw [List.getElem?_append_right (by simp; omega)] at hx
      rw [List.getElem?_append_right (by rw [h.len]; omega)] at hek
      have h0 := (List.getElem?_eq_some_iff.1 hx).1
      simp at h0
      have hk0 : k = hp.length := by omega
      subst hk0
      simp at hx
      simp [h.len] at hek
      subst hx; subst hek
      exact ⟨i, hi, he, .inr ⟨rfl, rfl⟩⟩
  refine ⟨h.below, h.base, h.laid, by simp [h.len], fun k x ek hx hek hlx => ?_, fun k1 k2 x1 x2 e1 e2 hne hx1 hx2 he1 he2 hl1 hl2 hro => ?_,
    h.frz.keep (.one he) (.of hpre) (fun _ _ _ _ hc _ => hc) fun k x ek hx hek hlx hrx => by
      obtain ⟨k', h1, h2, _⟩ := from_ k x ek hx hek hlx
      exact .inl ⟨k', x, ek, h1, h2, hlx, hrx, rfl⟩,
    (h.maps.set i (x := { b with live := false }) (fun l hb => absurd hb (hnm l)) fun _ _ _ h => h).snoc (by simp [h.len]) e hnm fun _ _ _ h => h⟩
  · obtain ⟨k', h1, h2, _⟩ := from_ k x ek hx hek hlx
    obtain ⟨c, fz, hc, r1, r2, r3, r4⟩ := h.blk k' x ek h1 h2 hlx
    exact ⟨c, fz, hc, r1, r2, r3, r4.mono hpre⟩
  · obtain ⟨k1', a1, a2, a3⟩ := from_ k1 x1 e1 hx1 he1 hl1
    obtain ⟨k2', b1, b2, b3⟩ := from_ k2 x2 e2 hx2 he2 hl2
    exact h.inj k1' k2' x1 x2 e1 e2 (by omega) a1 b1 a2 b2 hl1 hl2 hro

/-- What a dead block holds says nothing. -/
theorem RH.dead {i : Nat} (X Y : Body) {t : TypeId} {ro fu : Bool} {bs : List Blk} (h : RH B w0 E (hp.set i { body := X, elem := t, live := false, ro := ro, full := fu } ++ bs) w) {t' : TypeId} {ro' fu' : Bool} (hY : ∀ l, Y ≠ .mp l := by intro l h; cases h) :
    RH B w0 E (hp.set i { body := Y, elem := t', live := false, ro := ro', full := fu' } ++ bs) w := by
  have from_ : ∀ (k : Nat) (x : Blk), (hp.set i { body := Y, elem := t', live := false, ro := ro', full := fu' } ++ bs)[k]? = some x → x.live = true → (hp.set i { body := X, elem := t, live := false, ro := ro, full := fu } ++ bs)[k]? = some x := fun k x hx hl => by
    by_cases hk : k < hp.length
    · rw [List.getElem?_append_left (by simpa using hk)] at hx ⊢
      by_cases hik : i = k
      · subst hik
        rw [List.getElem?_set_self hk] at hx
        simp only [Option.some.injEq] at hx
        subst hx
        cases hl
      · rw [List.getElem?_set_ne hik] at hx ⊢
        exact hx
    · rw [List.getElem?_append_right (by simp; omega)] at hx ⊢
      simpa using hx
  refine ⟨h.below, h.base, h.laid, by have := h.len; simpa using this, fun k x ek hx hek hlx => h.blk k x ek (from_ k x hx hlx) hek hlx, fun k1 k2 x1 x2 e1 e2 hne hx1 hx2 he1 he2 hl1 hl2 hro => h.inj k1 k2 x1 x2 e1 e2 hne (from_ k1 x1 hx1 hl1) (from_ k2 x2 hx2 hl2) he1 he2 hl1 hl2 hro,
    h.frz.keep (.refl E) (.refl E) (fun _ _ _ _ hc _ => hc) fun k x ek hx hek hlx hrx => .inl ⟨k, x, ek, from_ k x hx hlx, hek, hlx, hrx, rfl⟩,
    h.maps.same fun k x l hx hb => ⟨x, by
      by_cases hk : k < hp.length
      · rw [List.getElem?_append_left (by simpa using hk)] at hx ⊢
        by_cases hik : i = k
        · subst hik
          rw [List.getElem?_set_self hk] at hx
          simp only [Option.some.injEq] at hx
          subst hx
          exact absurd hb (hY l)
        · rw [List.getElem?_set_ne hik] at hx ⊢
          exact hx
      · rw [List.getElem?_append_right (by simp; omega)] at hx ⊢
        simpa using hx, hb⟩⟩

theorem elemT_spec (hT : TabOk P T) {t e : TypeId} {ei : TI} (h : elemT T t = some (e, ei)) : P.underlying t = some (.slice e) ∧ T.ty e = some ei := by
  unfold elemT at h
  split at h
  · rename_i ti hti
    obtain ⟨hu, _⟩ := hT.ty t ti hti
    split at h
    · rename_i e' hd
      simp only [Option.map_eq_some_iff, Prod.mk.injEq] at h
      obtain ⟨ei', h1, rfl, rfl⟩ := h
      exact ⟨hd ▸ hu, h1⟩
    · cases h
  · cases h

/-- What is appended lies in memory. -/
theorem newA_spec (hh : RH B w0 E hp w) {size : Nat} {y : AV} {uy : Value} (hy : RV E y uy) {ns : List C1} {m j : Nat} (h : newA hp size y = some (ns, m, j)) :
    ∃ b ej off cap news, hp[j]? = some b ∧ b.live = true ∧ E[j]? = some ej ∧ uy = .slice (some ⟨ej.b, ej.o + off, none⟩) m cap ∧ RCs E ns news ∧ news.length = m * size ∧ ∀ (k : Nat) (v : Value), news[k]? = some v → w.cell? ((⟨ej.b, ej.o + off, none⟩ : Addr).add k) = some v := by
  unfold newA at h
  split at h
  · rename_i i off len sz
    split at h
    · rename_i b hb
      obtain ⟨hi, hl⟩ := liveB_some hb
      split at h
      · rename_i hfit
        obtain ⟨hfit, rfl⟩ := hfit
        simp only [Option.some.injEq, Prod.mk.injEq] at h
        obtain ⟨rfl, rfl, rfl⟩ := h
        obtain ⟨e, cap, he, rfl, _⟩ := hy
        obtain ⟨c, fz, hc, h1, _, ⟨h3, _⟩, h4⟩ := hh.blk i b e hi he hl
        have hcl : c.toList.length = e.o + e.n := by rw [Array.length_toList]; exact h1
        have hnews := (h4.drop off).take (len * sz)
        rw [drop_take_take _ _ _ _ hfit, List.drop_drop] at hnews
        refine ⟨b, e, off, cap, (c.toList.drop (e.o + off)).take (len * sz), hi, hl, he, rfl, hnews, by simp only [List.length_take, List.length_drop]; omega, fun k v hk => ?_⟩
        rw [add_row, cell_of_row w e.b (e.o + off + k) c b.elem fz hc]
        rw [List.getElem?_take] at hk
        split at hk
        · rw [List.getElem?_drop] at hk; simpa using hk
        · cases hk
      · cases h
    · cases h
  · cases h

theorem isNilA_spec {y : AV} {u : Value} (h : isNilA y = true) (hy : RV E y u) : ∃ base c, u = .slice base 0 c := by
  unfold isNilA at h
  split at h
  · exact ⟨none, 0, hy.1⟩
  · exact hy
  · cases h

theorem isSlA_spec {x : AV} {u : Value} (h : isSlA x = true) (hx : RV E x u) : ∃ base n c, u = .slice base n c ∧ n ≤ c := by
  unfold isSlA at h
  split at h
  · exact ⟨none, 0, 0, hx.1, Nat.le_refl _⟩
  · obtain ⟨e, cap, _, hu, hl, _⟩ := hx
    exact ⟨_, _, _, hu, hl⟩
  · obtain ⟨e, _, hu⟩ := hx
    exact ⟨_, _, _, hu, Nat.le_refl _⟩
  · obtain ⟨base, hu⟩ := hx
    exact ⟨_, _, _, hu, Nat.le_refl _⟩
  · cases h

theorem run_append_none (t ty e : TypeId) (i : TypeInfo) (ht : P.underlying t = some (.slice e)) (hi : P.info? e = some i) (base : Option Addr) (n c : Nat) (hnc : n ≤ c) (base' : Option Addr) (c' : Nat) (w : World) :
    (Builtin.append_ #[t, t] ty #[.slice base n c, .slice base' 0 c']).run P w = .ok (.slice base n c) w := by
  have h0 : ∀ a, (loadCells a 0).run P w = .ok #[] w := fun a => by simpa using run_loadCells_list (P := P) w a [] (by simp)
  cases base <;> cases base' <;> simp [Builtin.append_, run_underlying ht, Go.sizeOf, typeInfo, hi, Builtin.lenOf, hnc, Builtin.firstCells, storeCells, h0]

/-- An append whose new elements lie somewhere in memory. -/
theorem append_core (hT : TabOk P T) (hh : RH B w0 E hp w) {t ty e : TypeId} {ei : TI} (he : elemT T t = some (e, ei)) (hc1 : ei.size ≠ 0) (hc2 : ei.zero.length = ei.size) {x : AV} {ux : Value} (hx : RV E x ux)
    {cs : List C1} {src : Option Nat} {len : Nat} (hold : oldA hp e ei.size x = some (cs, src, len)) {ay : Addr} {m capj : Nat} {ns : List C1} {news : List Value} (hnrc : RCs E ns news) (hnl : news.length = m * ei.size)
    (hncell : ∀ (k : Nat) (v : Value), news[k]? = some v → w.cell? (ay.add k) = some v) (hm : m ≠ 0) (hb1 : (len + m) * ei.bytes ≤ 140737488355328) (hb2 : len + m ≤ maxLen) :
    ∃ u w' E', (Builtin.append_ #[t, t] ty #[ux, .slice (some ay) m capj]).run P w = .ok u w' ∧ E <+: E' ∧ RV E' (.one (.sl hp.length 0 (len + m) ei.size)) u ∧ RH B w0 E' (killO hp src ++ [{ body := .li (cs ++ ns), elem := e, live := true, ro := false }]) w' := by
  obtain ⟨hu, hei⟩ := elemT_spec hT he
  obtain ⟨hu2, inf, hinf, hsz, hby, hz⟩ := hT.ty e ei hei
  obtain ⟨z, vs, hzz, hall, hcs, hone, hzl⟩ := hz (by intro e1; rw [e1] at hc2; simp at hc2; omega)
  have hzs : z.cells.size = ei.size := by rw [← Array.length_toList, hcs, ← (allV_spec _ _ hall).1]; exact hzl
  rw [← hsz] at hnl
  have hml : maxLen = 9223372036854775807 := rfl
  -- a new block: what every growing append comes to
  have grow : ∀ (hp1 : List Blk) (w1 : World) (cap : Nat) (olds : List Value), RH B w0 E hp1 w1 → hp1.length = hp.length → RCs E cs olds → olds.length = len * inf.size → len + m ≤ cap → cap ≤ maxLen →
      ∃ E', E <+: E' ∧ RV E' (.one (.sl hp.length 0 (len + m) ei.size)) (.slice (some ⟨w1.heap.size, 0, none⟩) (len + m) cap) ∧
        RH B w0 E' (hp1 ++ [{ body := .li (cs ++ ns), elem := e, live := true, ro := false }]) (w1.alloc (.cells (olds.toArray ++ news.toArray ++ Builtin.zeroCells z.cells (cap - (len + m))) e)) := by
    intro hp1 w1 cap olds hh1 hl1 hco hol hcap hcapm
    have hboth := hco.append hnrc
    have hlen : (cs ++ ns).length = (len + m) * ei.size := by rw [hboth.1, List.length_append, hol, hnl, ← Nat.add_mul, hsz]
    have htake : (olds.toArray ++ news.toArray ++ Builtin.zeroCells z.cells (cap - (len + m))).toList.take (cs ++ ns).length = olds ++ news := by
      simp only [Array.toList_append, List.append_assoc]
      rw [← List.append_assoc, hboth.1]
      exact List.take_left
    have hsize : (olds.toArray ++ news.toArray ++ Builtin.zeroCells z.cells (cap - (len + m))).size = cap * ei.size := by
      simp only [Array.size_append, List.size_toArray, size_zeroCells, hzs, hol, hnl, hsz, ← Nat.add_mul]
      congr 1
      omega
    refine ⟨E ++ [EB.at w1.heap.size 0 (olds.toArray ++ news.toArray ++ Builtin.zeroCells z.cells (cap - (len + m))).size], ⟨_, rfl⟩, ?_, hh1.new _ e (cs ++ ns) (by rw [hlen, hsize]; exact Nat.mul_le_mul_right _ hcap) (by rw [htake]; exact hboth)⟩
    exact ⟨_, cap, env_last E _ _ (by rw [hh1.len, hl1]), rfl, hcap, hcapm, by simp only [hsize, Nat.zero_add]; exact Nat.le_refl _⟩
  unfold oldA at hold
  split at hold
  · simp only [Option.some.injEq, Prod.mk.injEq] at hold
    obtain ⟨rfl, rfl, rfl⟩ := hold
    obtain ⟨rfl, _⟩ := hx
    simp only [Nat.zero_add] at hb1 hb2 grow ⊢
    have hr := run_append_nil (P := P) w t ty e inf z hu hinf hzz ay m capj news hnl hncell (by omega) (by omega) (by rw [hby]; omega)
    obtain ⟨E', hpre, hrv, hrh⟩ := grow hp w.drew (grownCap w m 0 e) [] (hh.congr (below_self_drew w)) rfl (RCs.nil E) (by simp) (grownCap_ge w m 0 e) (grownCap_le_maxLen w m 0 e hb2)
    simp only [Array.empty_append] at hrh
    exact ⟨_, _, E', hr, hpre, hrv, hrh⟩
  · rename_i i0 off0
    simp only [Option.some.injEq, Prod.mk.injEq] at hold
    obtain ⟨rfl, rfl, rfl⟩ := hold
    obtain ⟨ee, hee, rfl⟩ := hx
    simp only [Nat.zero_add] at hb1 hb2 grow ⊢
    have hr := run_append_grow (P := P) w t ty e inf z hu hinf hzz ⟨ee.b, ee.o + off0, none⟩ 0 0 [] (by simp) (by simp) ay m capj news hnl hncell (by omega) (by simp only [Nat.zero_add]; omega) (by rw [Nat.zero_add, nextslicecap_zero (by omega), hby]; omega)
    simp only [Nat.zero_add] at hr
    obtain ⟨E', hpre, hrv, hrh⟩ := grow hp w.drew (grownCap w m 0 e) [] (hh.congr (below_self_drew w)) rfl (RCs.nil E) (by simp) (grownCap_ge w m 0 e) (grownCap_le_maxLen w m 0 e hb2)
    exact ⟨_, _, E', hr, hpre, hrv, hrh⟩
  · simp only [Option.some.injEq, Prod.mk.injEq] at hold
    obtain ⟨rfl, rfl, rfl⟩ := hold
    obtain ⟨base, rfl⟩ := hx
    simp only [Nat.zero_add] at hb1 hb2 grow ⊢
    obtain ⟨E', hpre, hrv, hrh⟩ := grow hp w.drew (grownCap w m 0 e) [] (hh.congr (below_self_drew w)) rfl (RCs.nil E) (by simp) (grownCap_ge w m 0 e) (grownCap_le_maxLen w m 0 e hb2)
    cases base with
    | none =>
      have hr := run_append_nil (P := P) w t ty e inf z hu hinf hzz ay m capj news hnl hncell (by omega) (by omega) (by rw [hby]; omega)
      simp only [Array.empty_append] at hrh
      exact ⟨_, _, E', hr, hpre, hrv, hrh⟩
    | some a0 =>
      have hr := run_append_grow (P := P) w t ty e inf z hu hinf hzz a0 0 0 [] (by simp) (by simp) ay m capj news hnl hncell (by omega) (by simp only [Nat.zero_add]; omega) (by rw [Nat.zero_add, nextslicecap_zero (by omega), hby]; omega)
      simp only [Nat.zero_add] at hr
      exact ⟨_, _, E', hr, hpre, hrv, hrh⟩
  · rename_i i off len' sz
    split at hold
    · rename_i b hb0
      obtain ⟨hi, hl⟩ := liveB_some hb0
      split at hold
      · rename_i hcond
        obtain ⟨hro, rfl, rfl, rfl, hfull⟩ := hcond
        simp only [Option.some.injEq, Prod.mk.injEq] at hold
        obtain ⟨rfl, rfl, rfl⟩ := hold
        obtain ⟨ee, cap, hee, rfl, hlc, hcm, hcn⟩ := hx
        obtain ⟨c, hc, h1, hB, hoo, h3, h4⟩ := hh.own hi hee hl hro
        rw [show ee.o + 0 = 0 from hoo]
        have hkill := hh.kill i b hi
        cases hfu : b.full with
        | true =>
          have hkl : (killO hp (some i)) = hp := by simp only [killO, killA, getB_eq, hi, hfu]
          rw [hkl]
          have hroom : ¬ len' + m ≤ cap := fun hr => by
            obtain ⟨_, _, _, _, _, ⟨_, q⟩, _⟩ := hh.blk i b ee hi hee hl
            have q := q hfu hro
            rw [Nat.zero_add, q, ← hfull] at hcn
            have := Nat.le_of_mul_le_mul_right hcn (by omega)
            omega
          have hr := run_append_grow (P := P) w t ty b.elem inf z hu hinf hzz ⟨ee.b, 0, none⟩ len' cap (c.toList.take b.cells.length) (by rw [← hfull, hsz] at *; rw [List.length_take]; simp; omega) (fun k v hk => by
            rw [add_row, cell_of_row w ee.b (0 + k) c b.elem (0, 0) hc]
            rw [List.getElem?_take] at hk
            split at hk
            · simpa using hk
            · cases hk) ay m capj news hnl hncell (by omega) (by omega) (by rw [hby]; exact growslice_fits (by omega) hb1)
          obtain ⟨E', hpre, hrv, hrh⟩ := grow _ w.drew (grownCap w (len' + m) cap b.elem) (c.toList.take b.cells.length) (hh.congr (below_self_drew w)) rfl h4 (by rw [← hfull, hsz] at *; rw [List.length_take]; simp; omega) (grownCap_ge w _ _ _) (grownCap_le_maxLen w _ _ _ hb2)
          exact ⟨_, _, E', hr, hpre, hrv, hrh⟩
        | false =>
        have hkl : (killO hp (some i)) = hp.set i { b with live := false } := by
          simp only [killO, killA, getB_eq, hi, hfu, setB_eq]
        rw [hkl]
        by_cases hroom : len' + m ≤ cap
        · -- in place
          have hfit : len' * inf.size + news.length ≤ c.size := by
            rw [hnl, hsz, h1, ← Nat.add_mul]
            rw [Nat.zero_add] at hcn
            exact Nat.le_trans (Nat.mul_le_mul_right _ hroom) hcn
          have hr := run_append_room (P := P) w t ty b.elem inf hu hinf ee.b len' cap c hc ay m capj news hnl hncell hnrc.ones hroom hfit
          refine ⟨_, _, E ++ [ee], hr, ⟨_, rfl⟩, ⟨ee, cap, env_last E _ _ hh.len, by rw [show ee.o + 0 = 0 from hoo], hroom, hcm, hcn⟩, ?_⟩
          have hcl : b.cells.length ≤ c.toList.length := by simpa using h3
          have hfull' : len' * inf.size = b.cells.length := by rw [hsz]; exact hfull
          rw [hfull'] at hfit ⊢
          have hrow := hh.rowL hi hee hl hro (c.toList.take b.cells.length ++ news ++ c.toList.drop (b.cells.length + news.length)).toArray (b.cells ++ ns)
            (by simp only [List.size_toArray, List.length_append, List.length_take, List.length_drop, Array.length_toList] at *; omega)
            (by simp only [List.size_toArray, List.length_append, List.length_take, List.length_drop, Array.length_toList, hnrc.1] at *; omega)
            (by
              have hb := h4.append hnrc
              have e1 : (c.toList.take b.cells.length ++ news ++ c.toList.drop (b.cells.length + news.length)).toArray.toList.take (b.cells ++ ns).length = c.toList.take b.cells.length ++ news := by
                rw [hb.1]
                exact List.take_left
              rw [e1]
              exact hb)
            (fun h => by rw [hfu] at h; cases h)
          have hlt : i < hp.length := (List.getElem?_eq_some_iff.1 hi).1
          have hmv := hrow.move (i := i) (b := { b with body := .li <| b.cells ++ ns }) (e := ee) (by rw [List.getElem?_set_self hlt]) hee (fun l h => by cases h)
          rw [List.set_set] at hmv
          have hdead : ∀ (X : Body), RH B w0 (E ++ [ee]) (hp.set i { body := X, elem := b.elem, live := false, ro := b.ro, full := b.full } ++ [{ body := .li (b.cells ++ ns), elem := b.elem, live := b.live, ro := b.ro, full := b.full }]) (w.setRow ee.b (c.toList.take b.cells.length ++ news ++ c.toList.drop (b.cells.length + news.length)).toArray) → RH B w0 (E ++ [ee]) (hp.set i { b with live := false } ++ [{ body := .li (b.cells ++ ns), elem := b.elem, live := true, ro := false }]) (w.setRow ee.b (c.toList.take b.cells.length ++ news ++ c.toList.drop (b.cells.length + news.length)).toArray) := fun X hX => by
            rw [hl, hro, hfu] at hX
            exact RH.dead X _ hX (hh.noMap hi hl)
          exact hdead _ hmv
        · have hr := run_append_grow (P := P) w t ty b.elem inf z hu hinf hzz ⟨ee.b, 0, none⟩ len' cap (c.toList.take b.cells.length) (by rw [← hfull, hsz] at *; rw [List.length_take]; simp; omega) ?_ ay m capj news hnl hncell (by omega) (by omega) (by rw [hby]; exact growslice_fits (by omega) hb1)
          · obtain ⟨E', hpre, hrv, hrh⟩ := grow _ w.drew (grownCap w (len' + m) cap b.elem) (c.toList.take b.cells.length) (hkill.congr (below_self_drew w)) (by simp) h4 (by rw [← hfull, hsz] at *; rw [List.length_take]; simp; omega) (grownCap_ge w _ _ _) (grownCap_le_maxLen w _ _ _ hb2)
            exact ⟨_, _, E', hr, hpre, hrv, hrh⟩
          · intro k v hk
            rw [add_row, cell_of_row w ee.b (0 + k) c b.elem (0, 0) hc]
            rw [List.getElem?_take] at hk
            split at hk
            · simpa using hk
            · cases hk
      · cases hold
    · cases hold
  · cases hold

theorem append_sound (hT : TabOk P T) (hh : RH B w0 E hp w) {ts : Array TypeId} {ty : TypeId} {x y : AV} {ux uy : Value} (hx : RV E x ux) (hy : RV E y uy) {v : AV} {hp' : List Blk} (h : appendA T ts x y hp = some (v, hp')) :
    ∃ u w' E', (Builtin.append_ ts ty #[ux, uy]).run P w = .ok u w' ∧ E <+: E' ∧ RV E' v u ∧ RH B w0 E' hp' w' := by
  unfold appendA at h
  split at h
  · rename_i t u hts
    split at h
    · rename_i e ei he
      obtain ⟨hu, hei⟩ := elemT_spec hT he
      obtain ⟨hu2, inf, hinf, hsz, hby, hz⟩ := hT.ty e ei hei
      split at h
      · rename_i hc
        obtain ⟨rfl, hc1, hc2⟩ := hc
        have hts' : ts = #[t, t] := Array.ext' (by simpa using hts)
        subst hts'
        obtain ⟨z, vs, hzz, hall, hcs, hone, hzl⟩ := hz (by intro e1; rw [e1] at hc2; simp at hc2; omega)
        have hzs : z.cells.size = ei.size := by rw [← Array.length_toList, hcs, ← (allV_spec _ _ hall).1]; exact hzl
        split at h
        · rename_i hy0
          split at h
          · rename_i hx0
            simp only [Option.some.injEq, Prod.mk.injEq] at h
            obtain ⟨rfl, rfl⟩ := h
            obtain ⟨base', c', rfl⟩ := isNilA_spec hy0 hy
            obtain ⟨base, n, c, rfl, hnc⟩ := isSlA_spec hx0 hx
            exact ⟨_, w, E, run_append_none t ty e inf hu hinf base n c hnc base' c' w, List.prefix_refl _, hx, hh⟩
          · cases h
        split at h
        · rename_i cs src len ns m j hold hnew
          split at h
          · rename_i hb
            obtain ⟨hm, hsrc, hb1, hb2⟩ := hb
            simp only [Option.some.injEq, Prod.mk.injEq] at h
            obtain ⟨rfl, rfl⟩ := h
            obtain ⟨bj, ej, offj, capj, news, hij, hlj, hej, rfl, hnrc, hnl, hncell⟩ := newA_spec hh hy hnew
            exact append_core hT hh he hc1 hc2 hx hold hnrc hnl hncell hm hb1 hb2
          · cases h
        · cases h
      · cases h
    · cases h
  · cases h

theorem pick_sound (_hh : RH B w0 E hp w) (ht : RT E tm a.tmps) (o : Oper) {c x y : Operand} (ho : o.op = .pick c x y) (h : opK0 P T o tm hp K) : QOut P K E hp w (execOp a.eval o) := by
  have hc := ht.eval c
  have go : ∀ t : Bool, a.eval c = .bool t → (t = true → K (evalO tm x) hp) → (t = false → K (evalO tm y) hp) → QOut P K E hp w (execOp a.eval o) := by
    intro t ht' h1 h2
    cases t with
    | true =>
      refine ⟨_, _, h1 rfl, ht.eval x, fun w' _ => ?_⟩
      simp only [execOp, ho, ht', asBool, Sem.run_bind, Sem.run_pure, Result.andThen_ok, if_true]
    | false =>
      refine ⟨_, _, h2 rfl, ht.eval y, fun w' _ => ?_⟩
      simp only [execOp, ho, ht', asBool, Sem.run_bind, Sem.run_pure, Result.andThen_ok, Bool.false_eq_true, if_false]
  simp only [opK0, ho, opPick, opExtract, opAlloc, opBox, opLoad, opStore, opNil, opFAddr, opField, opIAddr, opIndex, opBuild, opBSlice, opSlice, opMkFunc, opMakeSlice, opCall, opConv] at h
  split at h
  · rename_i t st hq
    rw [hq] at hc
    split at h
    · cases t with
      | true => exact go true hc.1 (fun _ => h) (fun e => by cases e)
      | false => exact go false hc.1 (fun e => by cases e) (fun _ => h)
    · exact go t hc.1 h.1 h.2
  · exact h.elim

theorem byteL_spec {E : Env} : ∀ {l : List C1} {ns : List Int} {vs : List Value}, byteL l = some ns → RCs E l vs → vs = ns.map (Value.int .u8)
  | [], ns, vs, h, hr => by
    simp only [byteL, Option.some.injEq] at h; subst h
    have := hr.1
    cases vs with
    | nil => rfl
    | cons v vs => simp at this
  | c :: l, ns, vs, h, hr => by
    unfold byteL at h
    repeat' split at h
    all_goals first | cases h | skip
    rename_i n _ _ ms hms
    cases vs with
    | nil => have := hr.1; simp at this
    | cons v vs =>
      simp only [List.map_cons, List.cons.injEq]
      refine ⟨(hr.2 0 _ v rfl rfl).1, byteL_spec hms ⟨by have := hr.1; simpa using this, fun j c v h1 h2 => hr.2 (j + 1) c v (by simpa using h1) (by simpa using h2)⟩⟩

theorem isBytesT_spec (hT : TabOk P T) {s d : TypeId} (h : isBytesT T s d = true) : ∃ e, P.underlying s = some (.slice e) ∧ P.underlying e = some (.int .u8) ∧ P.underlying d = some .string := by
  unfold isBytesT at h
  split at h
  · rename_i si di hs hd
    split at h
    · rename_i e h1 h2
      split at h
      · rename_i ei he
        split at h
        · rename_i k h3
          split at h
          · obtain ⟨u1, _⟩ := hT.ty s si hs
            obtain ⟨u2, _⟩ := hT.ty d di hd
            obtain ⟨u3, _⟩ := hT.ty e ei he
            rw [h1] at u1; rw [h2] at u2; rw [h3] at u3
            exact ⟨e, u1, u3, u2⟩
          · cases h
        · cases h
      · cases h
    · cases h
  · cases h

theorem bstr_sound (hT : TabOk P T) (hh : RH B w0 E hp w) (o : Oper) {s d : TypeId} {x : Operand} (ho : o.op = .convert s d x) {i off len : Nat} (hx : RV E (.one (.sl i off len 1)) (a.eval x)) (hsel : ∀ cs b, o.op ≠ .select cs b)
    (h : opBStr P T o s d i off len tm hp K) (ht : RT E tm a.tmps := by assumption) : QOut P K E hp w (execOp a.eval o) := by
  unfold opBStr at h
  split at h
  · rename_i hb
    obtain ⟨et, u1, u2, u3⟩ := isBytesT_spec hT hb
    split at h
    · rename_i ns hns
      unfold bytesA at hns
      split at hns
      · rename_i b hbl
        split at hns
        · rename_i l hbody
          split at hns
          · rename_i hfit
            obtain ⟨e, cap, he, hu, h1, h2, h3⟩ := hx
            obtain ⟨hi, hlive⟩ := liveB_some hbl
            obtain ⟨c, fz, hc, r1, _, ⟨r3, _⟩, r4⟩ := hh.blk i b e hi he hlive
            have hcl : b.cells = l := by rw [Blk.cells, hbody]; rfl
            have hlt0 : e.b < w.heap.size := (Array.getElem?_eq_some_iff.1 hc).1
            have hr4 := (r4.drop off).take len
            rw [drop_take_take _ _ _ _ (by rw [hcl]; exact hfit), List.drop_drop, hcl] at hr4
            have hvs := byteL_spec hns hr4
            refine ⟨_, _, h, ⟨rfl, rfl⟩, fun w' hw' => ?_⟩
            have hcells : (loadCells ⟨e.b, e.o + off, none⟩ len).run P w' = .ok (ns.map (Value.int .u8)).toArray w' := by
              have hlen : (ns.map (Value.int .u8)).length = len := by
                rw [← hvs, List.length_take, List.length_drop]
                have := r3
                rw [hcl] at this
                have := r1
                simp
                omega
              have := run_loadCells_list (P := P) (w := w') ⟨e.b, e.o + off, none⟩ (ns.map (Value.int .u8)) (fun j v hj => by
                rw [← hvs] at hj
                have hj2 : j < len := by have := (List.getElem?_eq_some_iff.1 hj).1; simp at this; omega
                rw [List.getElem?_take, if_pos hj2, List.getElem?_drop] at hj
                rw [add_row, cell_of_row w' e.b (e.o + off + j) c b.elem fz ((hw'.block e.b hlt0).trans hc)]
                simpa using hj)
              rw [hlen] at this
              exact this
            simp only [execOp, ho, hu, Sem.run_bind, run_convert_bytes_string w' s d et _ _ _ u1 u2 u3, run_bytesToString w' _ _ _ ns hcells, Result.andThen_ok, Sem.run_pure]
          · cases hns
        · cases hns
      · cases hns
    · exact h.elim
  · exact scal_sound hh ht o hsel h

theorem convert_sound (hT : TabOk P T) (hh : RH B w0 E hp w) (ht : RT E tm a.tmps) (o : Oper) {s d : TypeId} {x : Operand} (ho : o.op = .convert s d x) (h : opK0 P T o tm hp K) : QOut P K E hp w (execOp a.eval o) := by
  have hsel : ∀ cs b, o.op ≠ .select cs b := fun cs b e => by rw [ho] at e; cases e
  have hx := ht.eval x
  simp only [opK0, ho, opPick, opExtract, opAlloc, opBox, opLoad, opStore, opNil, opFAddr, opField, opIAddr, opIndex, opBuild, opBSlice, opSlice, opMkFunc, opMakeSlice, opCall, opConv] at h
  split at h
  · rename_i i off len sz si ti hq hsi hti
    rw [hq] at hx
    split at h
    · rename_i hsz
      have hsz' : sz = 1 := by rw [beq_eq] at hsz; simpa using hsz
      subst hsz'
      exact bstr_sound hT hh o ho hx hsel h
    · exact scal_sound hh ht o hsel h
  · rename_i k n st si ti hq hsi hti
    rw [hq] at hx
    obtain ⟨hx, _⟩ := hx
    obtain ⟨hus, _⟩ := hT.ty s si hsi
    obtain ⟨hu, _⟩ := hT.ty d ti hti
    split at h
    · rename_i k' hd
      refine ⟨_, _, h, ⟨rfl, rfl⟩, fun w' hw' => ?_⟩
      rw [hd] at hu
      simp only [execOp, ho, hx, convert, Sem.run_bind, run_underlying hus, run_underlying hu, Result.andThen_ok, Conv.intToInt, Sem.run_pure]
    · exact scal_sound hh ht o hsel h
  · rename_i k n si ti hq hsi hti
    rw [hq] at hx
    obtain ⟨hx, _⟩ := hx
    obtain ⟨hus, _⟩ := hT.ty s si hsi
    obtain ⟨hu, _⟩ := hT.ty d ti hti
    split at h
    · rename_i k' hd
      refine ⟨_, _, h.2, ⟨rfl, rfl⟩, fun w' hw' => ?_⟩
      rw [hd] at hu
      have hok := h.1
      unfold f2iok at hok
      split at hok
      · rename_i m hm
        simp only [Bool.and_eq_true, decide_eq_true_eq] at hok
        simp only [execOp, ho, hx, convert, Sem.run_bind, run_underlying hus, run_underlying hu, Result.andThen_ok, Conv.floatToInt, hm, f2i, Option.getD_some, if_pos hok, Sem.run_pure]
      · cases hok
    · exact scal_sound hh ht o hsel h
  · exact scal_sound hh ht o hsel h

theorem mnmx_sound (hh : RH B w0 E hp w) (ht : RT E tm a.tmps) (o : Oper) {c : Call} (ho : o.op = .call c) {great : Bool} (hc : c.callee = .builtin (match great with | true => .max | false => .min))
    (h : mnmxK P great o c.args.toList tm hp K) : QOut P K E hp w (execOp a.eval o) := by
  have hsel : ∀ cs b, o.op ≠ .select cs b := fun cs b e => by rw [ho] at e; cases e
  unfold mnmxK at h
  split at h
  · rename_i x y hxy
    have hargs : c.args = #[x, y] := Array.ext' (by simpa using hxy)
    split at h
    · rename_i k m s k' n s' ex ey
      split at h
      · exact scal_sound hh ht o hsel h
      · split at h
        · rename_i hk
          subst hk
          have hx := ht.eval x
          have hy := ht.eval y
          rw [ex] at hx; rw [ey] at hy
          obtain ⟨hx, _⟩ := hx
          obtain ⟨hy, _⟩ := hy
          refine ⟨_, _, h.2, ⟨rfl, rfl⟩, fun w' hw' => ?_⟩
          have hok := h.1
          unfold ford at hok
          obtain ⟨r, hr⟩ := Option.isSome_iff_exists.1 hok
          cases great <;> cases r <;>
            simp only [execOp, ho, resolve, hc, hargs, invoke, builtin, Sem.run_bind, Sem.run_pure, Result.andThen_ok, List.map_toArray, List.map_cons, List.map_nil, Builtin.max_, Builtin.min_, List.foldlM_cons, List.foldlM_nil, hx, hy, Builtin.max2, Builtin.min2, hr, fmax, fmin]
        · exact h.elim
    · exact scal_sound hh ht o hsel h
  · exact scal_sound hh ht o hsel h

theorem RH.swap {bs : List Blk} {b b' : Blk} (h : RH B w0 E (bs ++ [b]) w) (hc : b'.cells = b.cells) (he : (b'.elem, b'.full) = (b.elem, b.full)) (hl : b'.live = b.live) (hr : b'.ro = b.ro) (hnm : ∀ l, b'.body ≠ .mp l := by intro l h; cases h) : RH B w0 E (bs ++ [b']) w := by
  obtain ⟨he, hfu⟩ := Prod.mk.inj he
  have back : ∀ (i : Nat) (x : Blk), (bs ++ [b'])[i]? = some x → ∃ y, (bs ++ [b])[i]? = some y ∧ x.cells = y.cells ∧ (x.elem = y.elem ∧ x.full = y.full) ∧ x.live = y.live ∧ x.ro = y.ro := fun i x hx => by
    by_cases hi : i < bs.length
    · rw [List.getElem?_append_left hi] at hx
      exact ⟨x, by rw [List.getElem?_append_left hi]; exact hx, rfl, ⟨rfl, rfl⟩, rfl, rfl⟩
    · rw [List.getElem?_append_right (by omega)] at hx
      cases hk : i - bs.length with
      | zero =>
        rw [hk] at hx
        simp only [List.getElem?_cons_zero, Option.some.injEq] at hx
        subst hx
        exact ⟨b, by rw [List.getElem?_append_right (by omega), hk]; rfl, hc, ⟨he, hfu⟩, hl, hr⟩
      | succ k => rw [hk] at hx; simp at hx
  refine ⟨h.below, h.base, h.laid, by rw [h.len]; simp, fun i x e hx hei hlx => ?_, fun i j bi bj ei ej hij hi hj hei hej hli hlj hro => ?_,
    h.frz.keep (.refl E) (.refl E) (fun _ _ _ _ hc _ => hc) fun i x e hx hei hlx hrx => by
      obtain ⟨y, hy, _, _, c3, c4⟩ := back i x hx
      exact .inl ⟨i, y, e, hy, hei, by rw [← c3]; exact hlx, by rw [← c4]; exact hrx, rfl⟩,
    h.maps.same fun i x l hx hb => ⟨x, by
      have := snoc_old hx fun e => hnm l (e ▸ hb)
      have hlt := (List.getElem?_eq_some_iff.1 this).1
      rw [List.getElem?_append_left hlt]
      exact this, hb⟩⟩
  · obtain ⟨y, hy, c1, ⟨c2, c5⟩, c3, c4⟩ := back i x hx
    rw [c1, c2, c4]
    obtain ⟨c, fz, a1, a2, a3, a4, a5⟩ := h.blk i y e hy hei (by rw [← c3]; exact hlx)
    exact ⟨c, fz, a1, a2, a3, ⟨by rw [c1]; exact a4.1, fun hf hr => by rw [c1]; exact a4.2 (by rw [← c5]; exact hf) (by rw [← c4]; exact hr)⟩, a5⟩
  · obtain ⟨y1, h1, _, _, l1, r1⟩ := back i bi hi
    obtain ⟨y2, h2, _, _, l2, _⟩ := back j bj hj
    exact h.inj i j y1 y2 ei ej hij h1 h2 hei hej (by rw [← l1]; exact hli) (by rw [← l2]; exact hlj) (by rw [← r1]; exact hro)

theorem oldA_nil {x : AV} (h : oldA hp 0 0 x = some ([], none, 0)) (e : TypeId) (size : Nat) : oldA hp e size x = some ([], none, 0) := by
  unfold oldA at h ⊢
  split at h
  · rfl
  · rfl
  · rfl
  · split at h
    · split at h
      · simp at h
      · cases h
    · cases h
  · cases h

theorem symC_cut (n m off : Nat) (g : Nat → C1) (h : off + m ≤ n) : ((symC n g).drop off).take m = symC m fun k => g (off + k) := by
  apply List.ext_getElem?
  intro j
  rw [List.getElem?_take, List.getElem?_drop]
  by_cases hj : j < m
  · rw [if_pos hj, symC_get _ _ (by omega), symC_get _ _ hj]
  · rw [if_neg hj, List.getElem?_eq_none (by rw [symC_length]; omega)]

theorem appendS_sound (hT : TabOk P T) (hh : RH B w0 E hp w) {ts : Array TypeId} {ty : TypeId} {x y : AV} {ux uy : Value} (hx : RV E x ux) (hy : RV E y uy) {p : Prop} {v : AV} {hp' : List Blk} (h : appendS T ts x y hp = some (p, v, hp')) (hp1 : p) :
    ∃ u w' E', (Builtin.append_ ts ty #[ux, uy]).run P w = .ok u w' ∧ E <+: E' ∧ RV E' v u ∧ RH B w0 E' hp' w' := by
  unfold appendS at h
  split at h
  · rename_i t u j off len sz hts hold
    split at h
    · rename_i e ei b n g he hs
      split at h
      · rename_i hc
        obtain ⟨rfl, hc1, hc2, rfl⟩ := hc
        simp only [Option.some.injEq, Prod.mk.injEq] at h
        obtain ⟨rfl, rfl, rfl⟩ := h
        obtain ⟨hm, hfit, hb1, hb2⟩ := hp1
        obtain ⟨hi, hlive, hbody⟩ := liveS_spec hs
        have hcells : b.cells = symC n g := by rw [Blk.cells, hbody]; rfl
        have hlb : liveB hp j = some b := by
          unfold liveB
          rw [getB_eq, hi]
          simp only [hlive, if_true]
        have hns : newA hp ei.size (.one (.sl j off len ei.size)) = some (symC (len * ei.size) (fun k => g (off + k)), len, j) := by
          unfold newA
          simp only [hlb]
          rw [if_pos ⟨by rw [hcells, symC_length]; exact hfit, trivial⟩, hcells, symC_cut _ _ _ _ hfit]
        have hnil : isNilA (.one (.sl j off len ei.size)) = false := rfl
        have happ : appendA T ts x (.one (.sl j off len ei.size)) hp = some (.one (.sl hp.length 0 (0 + len) ei.size), hp ++ [{ body := .li ([] ++ symC (len * ei.size) (fun k => g (off + k))), elem := e, live := true, ro := false }]) := by
          unfold appendA
          simp only [hts, he]
          rw [if_pos ⟨trivial, hc1, hc2⟩]
          simp only [hnil, oldA_nil hold e ei.size, hns]
          rw [if_pos ⟨hm, by simp, by rw [Nat.zero_add]; exact hb1, by rw [Nat.zero_add]; exact hb2⟩]
          rfl
        obtain ⟨u', w', E', hr, hpre, hrv, hrh⟩ := append_sound (ty := ty) hT hh hx hy happ
        rw [Nat.zero_add] at hrv
        exact ⟨u', w', E', hr, hpre, hrv, hrh.swap rfl rfl rfl rfl⟩
      · cases h
    · cases h
  · cases h

theorem bodyG_len (b : Body) : b.cells.length = (bodyG b).1 := by
  cases b with
  | li l => unfold bodyG; split <;> first | rfl | (rename_i h; cases h; rfl) | simp_all [Body.cells]
  | sy n g => simp [Body.cells, bodyG, symC]
  | rs n sz f => simp [Body.cells, bodyG, recC]
  | mp l => rfl

theorem bodyG_get (b : Body) {k : Nat} (h : k < (bodyG b).1) : b.cells[k]? = some ((bodyG b).2 k) := by
  cases b with
  | li l =>
    match l, h with
    | [], h => simp [bodyG] at h
    | [c], h =>
      have : k = 0 := by simp [bodyG] at h; omega
      subst this
      rfl
    | c :: d :: l, h =>
      show (c :: d :: l)[k]? = some ((c :: d :: l).getD k .em)
      have hk : k < (c :: d :: l).length := h
      rw [List.getElem?_eq_getElem hk, List.getD_eq_getElem?_getD, List.getElem?_eq_getElem hk]
      rfl
  | sy n g => exact symC_get n g h
  | rs n sz f => exact recC_get n sz f h
  | mp l => exact absurd h (Nat.not_lt_zero _)

theorem appendT_sound (hT : TabOk P T) (hh : RH B w0 E hp w) {ts : Array TypeId} {ty : TypeId} {x y : AV} {ux uy : Value} (hx : RV E x ux) (hy : RV E y uy) {p : Prop} {v : AV} {hp' : List Blk} (h : appendT T ts x y hp = some (p, v, hp')) (hp1 : p) :
    ∃ u w' E', (Builtin.append_ ts ty #[ux, uy]).run P w = .ok u w' ∧ E <+: E' ∧ RV E' v u ∧ RH B w0 E' hp' w' := by
  unfold appendT at h
  split at h
  · rename_i t u i len s j off m sz hts
    split at h
    · rename_i e ei b b' he hb hb'
      split at h
      · rename_i hc
        obtain ⟨rfl, hc1, hc2, rfl, rfl, hij, hro, hel, _⟩ := hc
        simp only [Option.some.injEq, Prod.mk.injEq] at h
        obtain ⟨rfl, rfl, rfl⟩ := h
        obtain ⟨hm, hN, hfit, hb1, hb2⟩ := hp1
        have hl1 : b.cells.length = len * ei.size := by rw [← hN]; exact bodyG_len b.body
        have hl2 : b'.cells.length = (bodyG b'.body).1 := bodyG_len b'.body
        have hns : newA hp ei.size (.one (.sl j off m ei.size)) = some ((b'.cells.drop off).take (m * ei.size), m, j) := by
          unfold newA
          simp only [hb']
          rw [if_pos ⟨by rw [hl2]; exact hfit, trivial⟩]
        have hold : oldA hp e ei.size (.one (.sl i 0 len ei.size)) = some (b.cells, some i, len) := by
          unfold oldA
          simp only [hb]
          rw [if_pos ⟨hro, hel, trivial, trivial, hl1.symm⟩]
        have hnil : isNilA (.one (.sl j off m ei.size)) = false := rfl
        have happ : appendA T ts (.one (.sl i 0 len ei.size)) (.one (.sl j off m ei.size)) hp = some (.one (.sl hp.length 0 (len + m) ei.size), killA hp i ++ [{ body := .li (b.cells ++ (b'.cells.drop off).take (m * ei.size)), elem := e, live := true, ro := false }]) := by
          unfold appendA
          simp only [hts, he]
          rw [if_pos ⟨trivial, hc1, hc2⟩]
          simp only [hnil, hold, hns]
          rw [if_pos ⟨hm, by simpa using hij, hb1, hb2⟩]
          rfl
        obtain ⟨u', w', E', hr, hpre, hrv, hrh⟩ := append_sound (ty := ty) hT hh hx hy happ
        refine ⟨u', w', E', hr, hpre, hrv, hrh.swap ?_ rfl rfl rfl⟩
        show symC (len * ei.size + m * ei.size) (catG (len * ei.size) (bodyG b.body).2 off (bodyG b'.body).2) = b.cells ++ (b'.cells.drop off).take (m * ei.size)
        apply List.ext_getElem?
        intro k
        by_cases hk : k < len * ei.size + m * ei.size
        · rw [symC_get _ _ hk]
          unfold catG
          rw [blt_eq]
          by_cases hk1 : k < len * ei.size
          · rw [decide_eq_true hk1, cond_true, List.getElem?_append_left (by rw [hl1]; exact hk1)]
            exact (bodyG_get b.body (by rw [hN]; exact hk1)).symm
          · rw [decide_eq_false hk1, cond_false, List.getElem?_append_right (by rw [hl1]; omega), hl1, List.getElem?_take, if_pos (by omega), List.getElem?_drop]
            exact (bodyG_get b'.body (by omega)).symm
        · rw [List.getElem?_eq_none (by rw [symC_length]; omega), List.getElem?_eq_none]
          rw [List.length_append, hl1, List.length_take, List.length_drop]
          omega
      · cases h
    · cases h
  · cases h

theorem repeatC_take (cs : List C1) : ∀ (l c : Nat), l ≤ c → (repeatC cs c).take (l * cs.length) = repeatC cs l
  | 0, c, _ => by simp [repeatC]
  | l + 1, 0, h => by omega
  | l + 1, c + 1, h => by
    rw [repeatC, repeatC, List.take_append, show (l + 1) * cs.length - cs.length = l * cs.length from by rw [Nat.add_mul]; omega, repeatC_take cs l c (by omega), List.take_of_length_le (by rw [Nat.add_mul]; omega)]

theorem repeatC_length (cs : List C1) : ∀ l, (repeatC cs l).length = l * cs.length
  | 0 => by simp [repeatC]
  | l + 1 => by rw [repeatC, List.length_append, repeatC_length cs l, Nat.add_mul]; omega

theorem repeatC_one (z : C1) : ∀ l, repeatC [z] l = symC l fun _ => z
  | 0 => rfl
  | l + 1 => by
    rw [repeatC, repeatC_one z l]
    apply List.ext_getElem?
    intro j
    by_cases hj : j < l + 1
    · rw [symC_get _ _ hj]
      cases j with
      | zero => rfl
      | succ j =>
        rw [List.getElem?_append_right (by simp)]
        simp only [List.length_cons, List.length_nil, Nat.zero_add, Nat.add_sub_cancel]
        rw [symC_get _ _ (by omega)]
    · rw [List.getElem?_eq_none (by simp [symC_length]; omega), List.getElem?_eq_none (by rw [symC_length]; omega)]

theorem repeatC_rec (cs : List C1) : ∀ l, repeatC cs l = recC l cs.length fun _ => cs
  | 0 => by simp [repeatC, recC]
  | l + 1 => by
    rw [repeatC, repeatC_rec cs l]
    apply List.ext_getElem?
    intro j
    by_cases hj : j < (l + 1) * cs.length
    · have h0 : 0 < cs.length := by
        refine Nat.pos_of_ne_zero fun e => ?_
        rw [e] at hj; omega
      rw [recC_get _ _ _ hj]
      by_cases hc : j < cs.length
      · rw [List.getElem?_append_left hc, Nat.mod_eq_of_lt hc, List.getD_eq_getElem?_getD, List.getElem?_eq_getElem hc]
        rfl
      · rw [Nat.add_mul, Nat.one_mul] at hj
        rw [List.getElem?_append_right (by omega), recC_get _ _ _ (by omega)]
        have : j % cs.length = (j - cs.length) % cs.length := by
          rw [Nat.mod_eq_sub_mod (by omega)]
        rw [this]
    · rw [List.getElem?_eq_none (by rw [List.length_append, recC_length]; rw [Nat.add_mul] at hj; omega), List.getElem?_eq_none (by rw [recC_length]; omega)]

theorem makeSlice_sound (hT : TabOk P T) (hh : RH B w0 E hp w) (ht : RT E tm a.tmps) (o : Oper) {t : TypeId} {l c : Operand} (ho : o.op = .makeSlice t l c) (h : opMakeSlice T t l c tm hp K) : Out K B w0 E ((execOp a.eval o).run P w) := by
  unfold opMakeSlice at h
  split at h
  · rename_i e ei kl n st kc m st' he hl hc
    split at h
    · rename_i hsz0
      obtain ⟨hs1, hs2⟩ := hsz0
      obtain ⟨⟨h0, h1, h2, h3⟩, h⟩ := h
      obtain ⟨hu, hei⟩ := elemT_spec hT he
      obtain ⟨_, inf, hinf, hsz, hby, hz⟩ := hT.ty e ei hei
      obtain ⟨z, vs, hzz, hall, hcs, hone, hzl⟩ := hz (by intro e1; rw [e1] at hs2; simp at hs2; omega)
      have hl' := ht.eval l
      rw [hl] at hl'
      have hc' := ht.eval c
      rw [hc] at hc'
      have hrun := run_make (P := P) w t e inf z hu hinf hzz kl kc n m h0 h1 (by rw [hby]; exact h2) h3
      have hzs : z.cells.size = ei.size := by rw [← Array.length_toList, hcs, ← (allV_spec _ _ hall).1]; exact hzl
      have hrc : RCs E ei.zero z.cells.toList := hcs ▸ allV_RCs hall hone
      have hrep := repeat_run hrc m.toNat
      have hall2 : RCs E (repeatC ei.zero n.toNat) ((madeCells z.cells (m.toNat * inf.size)).toList.take (repeatC ei.zero n.toNat).length) := by
        have h5 := hrep.take (n.toNat * ei.zero.length)
        rw [repeatC_take _ _ _ (by omega)] at h5
        rw [repeatC_length]
        rw [hzs] at h5
        unfold madeCells
        rw [hsz]
        rw [hzs]
        exact h5
      have hlen : (repeatC ei.zero n.toNat).length ≤ (madeCells z.cells (m.toNat * inf.size)).size := by
        rw [size_madeCells, repeatC_length, hs2, hsz]
        exact Nat.mul_le_mul_right _ (by omega)
      have hfu : sameO l c = true → (madeCells z.cells (m.toNat * inf.size)).size = (repeatC ei.zero n.toNat).length := fun hso => by
        have hlc : l = c := by
          unfold sameO at hso
          split at hso
          · rw [Nat.eq_of_beq_eq_true hso]
          · cases hso
        subst hlc
        rw [hl] at hc
        simp only [AV.one.injEq, C1.sc.injEq, Value.int.injEq] at hc
        obtain ⟨⟨_, rfl⟩, _⟩ := hc
        rw [size_madeCells, repeatC_length, hs2, hsz]
      have hnew := hh.newF (madeCells z.cells (m.toNat * inf.size)) e (repeatC ei.zero n.toNat) hlen hall2 (sameO l c) hfu
      have hrv : RV (E ++ [EB.at w.heap.size 0 (madeCells z.cells (m.toNat * inf.size)).size]) (.one (.sl hp.length 0 n.toNat ei.size)) (.slice (some ⟨w.heap.size, 0, none⟩) n.toNat m.toNat) := by
        refine ⟨_, m.toNat, env_last E _ _ hh.len, rfl, by omega, ?_, ?_⟩
        · have hml : maxLen = 9223372036854775807 := rfl
          omega
        · simp only [size_madeCells, hsz, Nat.zero_add]
          exact Nat.le_refl _
      have hex : (execOp a.eval o).run P w = .ok (.value (.slice (some ⟨w.heap.size, 0, none⟩) n.toNat m.toNat)) (w.alloc (.cells (madeCells z.cells (m.toNat * inf.size)) e)) := by
        simp only [execOp, ho, Sem.run_bind, hl'.1, hc'.1, hrun, Result.andThen_ok, Sem.run_pure]
      rw [hex]
      split at h
      · exact ⟨_, _, _, _, _, .inl rfl, h, ⟨_, rfl⟩, hrv, hnew⟩
      · split at h
        · rename_i z1 hz1
          have hone1 : ei.size = 1 := by rw [← hs2, hz1]; rfl
          rw [hone1] at hrv
          exact ⟨_, _, _, _, _, .inl rfl, h, ⟨_, rfl⟩, hrv, hnew.swap (by show symC n.toNat (fun _ => z1) = repeatC ei.zero n.toNat; rw [hz1, repeatC_one]) rfl rfl rfl⟩
        · exact ⟨_, _, _, _, _, .inl rfl, h, ⟨_, rfl⟩, hrv, hnew.swap (by show recC n.toNat ei.size (fun _ => ei.zero) = repeatC ei.zero n.toNat; rw [← hs2, repeatC_rec]) rfl rfl rfl⟩
    · exact h.elim
  · exact h.elim

/-! ### lists of elements -/

/-- One knows less of the blocks. -/
theorem RH.weaken {hp' : List Blk} (h : RH B w0 E hp w) (hl : hp'.length = hp.length)
    (hb : ∀ (i : Nat) (b' : Blk), hp'[i]? = some b' → b'.live = true → ∃ b, hp[i]? = some b ∧ b.live = true ∧ (b.elem, b.full) = (b'.elem, b'.full) ∧ (b'.ro = false → b.ro = false) ∧ ∀ vs, RCs E b.cells vs → RCs E b'.cells vs) (hm : ∀ (i : Nat) (b : Blk) (l : List (Int × C1)), hp'[i]? = some b → b.body = .mp l → ∃ b0, hp[i]? = some b0 ∧ b0.body = .mp l) : RH B w0 E hp' w := by
  refine ⟨h.below, h.base, h.laid, by rw [h.len, hl], fun i b' e hi he hlv => ?_, fun i j bi bj ei ej hij hi hj hei hej hli hlj hro => ?_,
    h.frz.keep (.refl E) (.refl E) (fun _ _ _ _ hc _ => hc) fun i b' e hi he hlv hro => ?_, h.maps.same hm⟩
  · obtain ⟨b, h1, h2, h3, h4, h5⟩ := hb i b' hi hlv
    obtain ⟨c, fz, a1, a2, a3, a4, a5⟩ := h.blk i b e h1 he h2
    have h6 := h5 _ a5
    have hlen : b'.cells.length = b.cells.length := h6.1.trans a5.1.symm
    obtain ⟨h3, h3f⟩ := Prod.mk.inj h3
    exact ⟨c, fz, by rw [← h3]; exact a1, a2, fun hro => a3 (h4 hro), ⟨by rw [hlen]; exact a4.1, fun hf hr => by rw [hlen]; exact a4.2 (h3f.trans hf) (h4 hr)⟩, by rw [hlen]; exact h6⟩
  · obtain ⟨b1, c1, c2, _, c4, _⟩ := hb i bi hi hli
    obtain ⟨b2, d1, d2, _⟩ := hb j bj hj hlj
    exact h.inj i j b1 b2 ei ej hij c1 d1 hei hej c2 d2 (c4 hro)
  · obtain ⟨b, h1, h2, h3, h4, h5⟩ := hb i b' hi hlv
    exact .inl ⟨i, b, e, h1, he, h2, h4 hro, rfl⟩

theorem RH.weaken1 {bs : List Blk} {b b' : Blk} (h : RH B w0 E (bs ++ [b]) w) (hb : b'.live = true → b.live = true ∧ (b.elem, b.full) = (b'.elem, b'.full) ∧ (b'.ro = false → b.ro = false) ∧ ∀ vs, RCs E b.cells vs → RCs E b'.cells vs) (hnm : ∀ l, b'.body ≠ .mp l := by intro l h; cases h) : RH B w0 E (bs ++ [b']) w := by
  refine h.weaken (by simp) (fun i x hx hl => ?_) fun i x l hx hxb => ⟨x, by
    have := snoc_old hx fun e => hnm l (e ▸ hxb)
    have hlt := (List.getElem?_eq_some_iff.1 this).1
    rw [List.getElem?_append_left hlt]
    exact this, hxb⟩
  by_cases hi : i < bs.length
  · rw [List.getElem?_append_left hi] at hx ⊢
    exact ⟨x, hx, hl, rfl, id, fun _ h => h⟩
  · rw [List.getElem?_append_right (by omega)] at hx ⊢
    have h0 := (List.getElem?_eq_some_iff.1 hx).1
    have h1 : i - bs.length = 0 := by simp at h0; omega
    rw [h1] at hx ⊢
    simp only [List.getElem?_cons_zero, Option.some.injEq] at hx
    subst hx
    exact ⟨b, rfl, hb hl⟩

/-- One dead block more. -/
theorem RH.dead1 (h : RH B w0 E hp w) : RH B w0 (E ++ [EB.at 0 0 0]) (hp ++ [deadB]) w := by
  have hpre : E <+: E ++ [EB.at 0 0 0] := ⟨_, rfl⟩
  have old : ∀ (i : Nat) (b : Blk) (e : EB), (hp ++ [deadB])[i]? = some b → (E ++ [EB.at 0 0 0])[i]? = some e → b.live = true → hp[i]? = some b ∧ E[i]? = some e := fun i b e hi he hl => by
    by_cases hlt : i < hp.length
    · rw [List.getElem?_append_left hlt] at hi
      rw [List.getElem?_append_left (by rw [h.len]; exact hlt)] at he
      exact ⟨hi, he⟩
    · rw [List.getElem?_append_right (by omega)] at hi
      have h0 := (List.getElem?_eq_some_iff.1 hi).1
      have h1 : i - hp.length = 0 := by simp at h0; omega
      rw [h1] at hi
      simp only [List.getElem?_cons_zero, Option.some.injEq] at hi
      subst hi
      cases hl
  refine ⟨h.below, h.base, h.laid, by simp [h.len], fun i b e hi he hl => ?_, fun i j bi bj ei ej hij hi hj hei hej hli hlj hro => ?_,
    h.frz.keep (.at E _ _ _) (.of hpre) (fun _ _ _ _ hc _ => hc) fun i b e hi he hl hro => ?_,
    h.maps.snoc h.len _ (fun l h => by cases h) fun _ _ _ h => h⟩
  · obtain ⟨h1, h2⟩ := old i b e hi he hl
    obtain ⟨c, fz, a1, a2, a3, a4, a5⟩ := h.blk i b e h1 h2 hl
    exact ⟨c, fz, a1, a2, a3, a4, a5.mono hpre⟩
  · obtain ⟨h1, h2⟩ := old i bi ei hi hei hli
    obtain ⟨h3, h4⟩ := old j bj ej hj hej hlj
    exact h.inj i j bi bj ei ej hij h1 h3 h2 h4 hli hlj hro
  · obtain ⟨h1, h2⟩ := old i b e hi he hl
    exact .inl ⟨i, b, e, h1, h2, hl, hro, rfl⟩

/-- A block that nobody will write any more. -/
theorem RH.freeze {i : Nat} {b : Blk} {e : EB} (h : RH B w0 E hp w) (hi : hp[i]? = some b) (he : E[i]? = some e) (hl : b.live = true) (hro : b.ro = false) (hf : ∀ x ∈ b.cells, freeC x) :
    RH B w0 (E.set i { e with fz := fun b' q cs => e.fz b' q cs ∨ (b' = e.b ∧ q = 0 ∧ cs = b.cells) }) (hp.set i { b with live := false }) w := by
  have hlt : i < hp.length := (List.getElem?_eq_some_iff.1 hi).1
  have hltE : i < E.length := (List.getElem?_eq_some_iff.1 he).1
  obtain ⟨c, hc, h1, hB, ho, h3, h4⟩ := h.own hi he hl hro
  have hk := h.kill i b hi
  have back : ∀ (j : Nat) (x : EB), (E.set i { e with fz := fun b' q cs => e.fz b' q cs ∨ (b' = e.b ∧ q = 0 ∧ cs = b.cells) })[j]? = some x → ∃ y, E[j]? = some y ∧ y.b = x.b ∧ y.o = x.o ∧ y.n = x.n ∧ y.own = x.own := fun j x hx => by
    by_cases hij : i = j
    · subst hij
      rw [List.getElem?_set_self hltE] at hx
      simp only [Option.some.injEq] at hx
      subst hx
      exact ⟨e, he, rfl, rfl, rfl, rfl⟩
    · rw [List.getElem?_set_ne hij] at hx
      exact ⟨x, hx, rfl, rfl, rfl, rfl⟩
  have hle : FzLe E (E.set i { e with fz := fun b' q cs => e.fz b' q cs ∨ (b' = e.b ∧ q = 0 ∧ cs = b.cells) }) := fun j x b' q cs hx hz => by
    by_cases hij : i = j
    · subst hij
      rw [he] at hx
      obtain rfl := Option.some.inj hx
      exact ⟨i, _, List.getElem?_set_self hltE, .inl hz⟩
    · exact ⟨j, x, by rw [List.getElem?_set_ne hij]; exact hx, hz⟩
  have mono : ∀ {cs : List C1} {vs : List Value}, RCs E cs vs → RCs (E.set i { e with fz := fun b' q cs => e.fz b' q cs ∨ (b' = e.b ∧ q = 0 ∧ cs = b.cells) }) cs vs := fun {cs vs} hr =>
    ⟨hr.1, fun j x v hx hv => by
      have hr := hr.2 j x v hx hv
      have get : ∀ {k : Nat} {y : EB}, E[k]? = some y → ∃ y', (E.set i { e with fz := fun b' q cs => e.fz b' q cs ∨ (b' = e.b ∧ q = 0 ∧ cs = b.cells) })[k]? = some y' ∧ y'.b = y.b ∧ y'.o = y.o ∧ y'.n = y.n := fun {k y} hy => by
        by_cases hik : i = k
        · subst hik
          rw [he] at hy
          obtain rfl := Option.some.inj hy
          exact ⟨_, List.getElem?_set_self hltE, rfl, rfl, rfl⟩
        · exact ⟨y, by rw [List.getElem?_set_ne hik]; exact hy, rfl, rfl, rfl⟩
      cases x with
      | sc v st => exact hr
      | ptr k off => obtain ⟨y, hy, hu⟩ := hr; obtain ⟨y', a1, a2, a3, a4⟩ := get hy; exact ⟨y', a1, by rw [a2, a3]; exact hu⟩
      | sl k off len sz => obtain ⟨y, cap, hy, hu, r1, r2, r3⟩ := hr; obtain ⟨y', a1, a2, a3, a4⟩ := get hy; exact ⟨y', cap, a1, by rw [a2, a3]; exact hu, r1, r2, by rw [a4]; exact r3⟩
      | e0 k off => obtain ⟨y, hy, hu⟩ := hr; obtain ⟨y', a1, a2, a3, a4⟩ := get hy; exact ⟨y', a1, by rw [a2, a3]; exact hu⟩
      | fn f ps =>
        obtain ⟨caps, hu, hl, hc⟩ := hr
        refine ⟨caps, hu, hl, fun j p v hp hv => ?_⟩
        obtain ⟨y, hy, hv'⟩ := hc j p v hp hv
        obtain ⟨y', a1, a2, a3, a4⟩ := get hy
        exact ⟨y', a1, by rw [a2, a3]; exact hv'⟩
      | em => exact hr
      | fl k => exact hr
      | cf k => exact hr
      | lst n N sz f => exact freeC_RC hle trivial hr
      | pl ds o => exact freeC_RC hle trivial hr
      | pr k m sz o => obtain ⟨y, hy, hu⟩ := hr; obtain ⟨y', a1, a2, a3, a4⟩ := get hy; exact ⟨y', a1, by rw [a2, a3]; exact hu⟩
      | gr k n sz =>
        rcases hr with hr | ⟨hn, y, cap, hy, hu, r1, r2, r3⟩
        · exact .inl hr
        · obtain ⟨y', a1, a2, a3, a4⟩ := get hy
          exact .inr ⟨hn, y', cap, a1, by rw [a2, a3]; exact hu, r1, r2, by rw [a4]; exact r3⟩
      | ez => exact hr
      | mp k => obtain ⟨y, hy, hu⟩ := hr; obtain ⟨y', a1, a2, a3, a4⟩ := get hy; exact ⟨y', a1, by rw [a2]; exact hu⟩⟩
  refine ⟨h.below, h.base, h.laid, by simp [h.len], fun j x ej hx hej hlx => ?_, fun j1 j2 x1 x2 e1 e2 hne hx1 hx2 he1 he2 hl1 hl2 hr1 => ?_, ⟨fun j ej b' q cs hej hz => ?_, fun j ej b' hej ho' => by
      obtain ⟨y, hy, _, _, _, a4⟩ := back j ej hej
      exact h.frz.2 j y b' hy (by rw [a4]; exact ho')⟩,
    hk.maps.keepE (fun c u hc => (mono (RCs.single hc)).2 0 c u rfl rfl) (fun _ _ _ h => h) fun k x ek l hx hek hb => by
      obtain ⟨y, hy, a1, _⟩ := back k ek hek
      exact ⟨x, y, hx, hy, a1, hb⟩⟩
  · obtain ⟨y, hy, a1, a2, a3, _⟩ := back j ej hej
    obtain ⟨c', fz, r1, r2, r3, r4, r5⟩ := hk.blk j x y hx hy hlx
    exact ⟨c', fz, by rw [← a1]; exact r1, by rw [← a2, ← a3]; exact r2, by rw [← a1, ← a2]; exact r3, by rw [← a3]; exact r4, by rw [← a2]; exact mono r5⟩
  · obtain ⟨y1, hy1, a1, _⟩ := back j1 e1 he1
    obtain ⟨y2, hy2, b1, _⟩ := back j2 e2 he2
    rw [← a1, ← b1]
    exact hk.inj j1 j2 x1 x2 y1 y2 hne hx1 hx2 hy1 hy2 hl1 hl2 hr1
  · have old : ∀ (j0 : Nat) (e0 : EB), E[j0]? = some e0 → e0.fz b' q cs → (∃ c t z, w.heap[b']? = some (.cells c t z) ∧ q + cs.length ≤ c.size ∧ RCs (E.set i { e with fz := fun b' q cs => e.fz b' q cs ∨ (b' = e.b ∧ q = 0 ∧ cs = b.cells) }) cs ((c.toList.drop q).take cs.length) ∧ ∀ x ∈ cs, freeC x) ∧
        (∀ (i' : Nat) (bi : Blk) (ei : EB), (hp.set i { b with live := false })[i']? = some bi → (E.set i { e with fz := fun b' q cs => e.fz b' q cs ∨ (b' = e.b ∧ q = 0 ∧ cs = b.cells) })[i']? = some ei → bi.live = true → bi.ro = false → ei.b ≠ b') ∧
        ∀ (i' : Nat) (ei : EB), (E.set i { e with fz := fun b' q cs => e.fz b' q cs ∨ (b' = e.b ∧ q = 0 ∧ cs = b.cells) })[i']? = some ei → ¬ ei.own b' := fun j0 e0 he0 hz0 => by
      obtain ⟨⟨c', t', z', r1, r2, r3, r4⟩, r5, r6⟩ := hk.frz.1 j0 e0 b' q cs he0 hz0
      refine ⟨⟨c', t', z', r1, r2, mono r3, r4⟩, fun i' bi ei hi' hei' hl' hr' => ?_, fun i' ei hei' => ?_⟩
      · obtain ⟨y, hy, a1, _⟩ := back i' ei hei'
        rw [← a1]
        exact r5 i' bi y hi' hy hl' hr'
      · obtain ⟨y, hy, _, _, _, a4⟩ := back i' ei hei'
        rw [← a4]
        exact r6 i' y hy
    by_cases hij : i = j
    · subst hij
      rw [List.getElem?_set_self hltE] at hej
      simp only [Option.some.injEq] at hej
      subst hej
      rcases hz with hz | ⟨rfl, rfl, rfl⟩
      · exact old i e he hz
      · refine ⟨⟨c, b.elem, (0, 0), hc, by simp only [Nat.zero_add]; exact h3, by rw [List.drop_zero]; exact mono h4, hf⟩, fun i' bi ei hi' hei' hl' hr' => ?_, fun i' ei hei' ho' => by
          obtain ⟨y, hy, _, _, _, a4⟩ := back i' ei hei'
          have := h.frz.2 i' y _ hy (by rw [a4]; exact ho')
          omega⟩
        obtain ⟨y, hy, a1, _⟩ := back i' ei hei'
        rw [← a1]
        have hne : i' ≠ i := fun e1 => by
          subst e1
          rw [List.getElem?_set_self hlt] at hi'
          simp only [Option.some.injEq] at hi'
          subst hi'
          cases hl'
        rw [List.getElem?_set_ne (Ne.symm hne)] at hi'
        exact h.inj i' i bi b y e hne hi' hi hy he hl' hl hr'
    · rw [List.getElem?_set_ne hij] at hej
      exact old j ej hej hz

/-- What lies in such a list. -/
theorem lst_cells (hh : RH B w0 E hp w) {n N sz : Nat} {f : Nat → List C1} {u : Value} (hr : RC E (.lst n N sz f) u) (hn : n ≠ 0) :
    ∃ ay cap news, u = .slice (some ay) n cap ∧ n ≤ cap ∧ RCs E (recC n sz f) news ∧ news.length = n * sz ∧ (∀ (k : Nat) (v : Value), news[k]? = some v → w.cell? (ay.add k) = some v) ∧ (∀ k, k < n → (f k).length = sz) ∧ ∀ x ∈ recC n sz f, freeC x := by
  rcases hr with ⟨h0, _⟩ | ⟨j, e, b, q, o, cap, cs, he, hz, rfl, h1, h2, h3, h4, h5⟩
  · exact absurd h0 hn
  · obtain ⟨⟨c, t, z, hc, h6, h7, h8⟩, _⟩ := hh.frz.1 j e b q cs he hz
    have hnN : n * sz ≤ N * sz := Nat.mul_le_mul_right _ h1
    have hcl : c.toList.length = c.size := Array.length_toList
    have key : recC n sz f = (cs.drop o).take (n * sz) := by
      apply List.ext_getElem?
      intro k
      by_cases hk : k < n * sz
      · have hsz : 0 < sz := by
          refine Nat.pos_of_ne_zero fun e0 => ?_
          rw [e0] at hk; omega
        have hkn : k / sz < n := by
          rw [Nat.div_lt_iff_lt_mul hsz]; exact hk
        have hr : k % sz < sz := Nat.mod_lt _ hsz
        have hdm : k = k / sz * sz + k % sz := by rw [Nat.mul_comm]; exact (Nat.div_add_mod k sz).symm
        rw [recC_get _ _ _ hk, h5 _ (by omega), List.getD_eq_getElem?_getD, List.getElem?_take, if_pos hr, List.getElem?_drop, List.getElem?_take, if_pos hk, List.getElem?_drop]
        have e1 : o + k / sz * sz + k % sz = o + k := by omega
        rw [e1, List.getElem?_eq_getElem (by omega)]
        rfl
      · rw [List.getElem?_eq_none (by rw [recC_length]; omega), List.getElem?_eq_none (by rw [List.length_take]; omega)]
    have hnews := (h7.drop o).take (n * sz)
    rw [drop_take_take _ _ _ _ (by omega), List.drop_drop, ← key] at hnews
    refine ⟨⟨b, q + o, none⟩, cap, (c.toList.drop (q + o)).take (n * sz), rfl, by omega, hnews, by rw [List.length_take, List.length_drop]; omega, fun k v hk => ?_, fun k hk => ?_, fun x hx => ?_⟩
    · rw [add_row, cell_of_row w b (q + o + k) c t z hc]
      rw [List.getElem?_take] at hk
      split at hk
      · rw [List.getElem?_drop] at hk; simpa using hk
      · cases hk
    · rw [h5 k (by omega), List.length_take, List.length_drop]
      have h9 : (k + 1) * sz ≤ N * sz := Nat.mul_le_mul_right _ (by omega)
      rw [Nat.add_mul, Nat.one_mul] at h9
      omega
    · rw [key] at hx
      exact h8 x (List.mem_of_mem_drop (List.mem_of_mem_take hx))

theorem liveB_of {i : Nat} {b : Blk} (hi : hp[i]? = some b) (hl : b.live = true) : liveB hp i = some b := by
  unfold liveB
  rw [getB_eq, hi]
  simp only [hl, if_true]

theorem recC_one (g : Nat → C1) (n : Nat) : recC n 1 (fun k => [g k]) = symC n g := by
  apply List.ext_getElem?
  intro j
  by_cases hj : j < n
  · rw [recC_get _ _ _ (by omega), symC_get _ _ hj, Nat.div_one, Nat.mod_one]
    rfl
  · rw [List.getElem?_eq_none (by rw [recC_length]; omega), List.getElem?_eq_none (by rw [symC_length]; omega)]

theorem recC_single (l : List C1) (sz : Nat) (h : l.length = sz) : recC 1 sz (fun _ => l) = l := by
  apply List.ext_getElem?
  intro j
  by_cases hj : j < sz
  · rw [recC_get _ _ _ (by omega), Nat.mod_eq_of_lt hj, List.getD_eq_getElem?_getD, List.getElem?_eq_getElem (by omega)]
    rfl
  · rw [List.getElem?_eq_none (by rw [recC_length]; omega), List.getElem?_eq_none (by omega)]

theorem recC_take {n m sz : Nat} {f : Nat → List C1} (h : m ≤ n) : (recC n sz f).take (m * sz) = recC m sz f := by
  have h1 : m * sz ≤ n * sz := Nat.mul_le_mul_right _ h
  apply List.ext_getElem?
  intro j
  rw [List.getElem?_take]
  by_cases hj : j < m * sz
  · rw [if_pos hj, recC_get _ _ _ (by omega), recC_get _ _ _ hj]
  · rw [if_neg hj, List.getElem?_eq_none (by rw [recC_length]; omega)]

/-- What is appended as elements lies in memory. -/
theorem recY_spec (hh : RH B w0 E hp w) {size : Nat} {y : AV} {uy : Value} (hy : RV E y uy) {q : Prop} {m : Nat} {g : Nat → List C1} {j : Option Nat} (h : recY hp size y = some (q, m, g, j)) (hq : q) :
    m ≠ 0 ∧ ∃ ay cap news, uy = .slice (some ay) m cap ∧ RCs E (recC m size g) news ∧ news.length = m * size ∧ ∀ (k : Nat) (v : Value), news[k]? = some v → w.cell? (ay.add k) = some v := by
  unfold recY at h
  split at h
  · rename_i n N s f
    split at h
    · rename_i hs
      subst hs
      simp only [Option.some.injEq, Prod.mk.injEq] at h
      obtain ⟨rfl, rfl, rfl, rfl⟩ := h
      obtain ⟨ay, cap, news, h1, _, h2, h3, h4, _⟩ := lst_cells hh hy hq
      exact ⟨hq, ay, cap, news, h1, h2, h3, h4⟩
    · cases h
  · rename_i j' off m' s
    split at h
    · rename_i b hb
      obtain ⟨hi, hl⟩ := liveB_some hb
      have fin : ∀ (g' : Nat → List C1), m' ≠ 0 → off + m' * size ≤ b.cells.length → s = size → (b.cells.drop off).take (m' * size) = recC m' size g' → m' ≠ 0 ∧ ∃ ay cap news, uy = .slice (some ay) m' cap ∧ RCs E (recC m' size g') news ∧ news.length = m' * size ∧ ∀ (k : Nat) (v : Value), news[k]? = some v → w.cell? (ay.add k) = some v := fun g' hm hfit hs he => by
        subst hs
        obtain ⟨_, ej, _, cap, news, _, _, _, hu, h1, h2, h3⟩ := newA_spec (ns := recC m' s g') (m := m') (j := j') (size := s) hh hy (by
          unfold newA
          simp only [hb]
          rw [if_pos ⟨hfit, trivial⟩, he])
        exact ⟨hm, _, cap, news, hu, h1, h2, h3⟩
      split at h
      · rename_i l hbd
        split at h
        · rename_i hc
          obtain ⟨hs, rfl, hfit⟩ := hc
          simp only [Option.some.injEq, Prod.mk.injEq] at h
          obtain ⟨rfl, rfl, rfl, rfl⟩ := h
          have hcells : b.cells = l := by rw [Blk.cells, hbd]; rfl
          refine fin _ (by omega) (by rw [hcells]; omega) hs ?_
          rw [hcells, Nat.one_mul, recC_single _ _ (by rw [List.length_take, List.length_drop]; omega)]
        · cases h
      · rename_i n' s' f hbd
        split at h
        · rename_i hc
          obtain ⟨hs, rfl, rfl⟩ := hc
          simp only [Option.some.injEq, Prod.mk.injEq] at h
          obtain ⟨rfl, rfl, rfl, rfl⟩ := h
          have hcells : b.cells = recC n' s' f := by rw [Blk.cells, hbd]; rfl
          obtain ⟨hq1, hq2⟩ := hq
          refine fin _ hq2 (by rw [hcells, recC_length, Nat.zero_add]; exact Nat.mul_le_mul_right _ hq1) hs ?_
          rw [hcells, List.drop_zero, recC_take hq1]
        · cases h
      · rename_i n' g' hbd
        split at h
        · rename_i hc
          obtain ⟨hs, rfl⟩ := hc
          simp only [Option.some.injEq, Prod.mk.injEq] at h
          obtain ⟨rfl, rfl, rfl, rfl⟩ := h
          have hcells : b.cells = symC n' g' := by rw [Blk.cells, hbd]; rfl
          obtain ⟨hq1, hq2⟩ := hq
          refine fin _ hq2 (by rw [hcells, symC_length, Nat.mul_one]; exact hq1) hs ?_
          rw [hcells, Nat.mul_one, symC_cut _ _ _ _ hq1, recC_one]
        · cases h
      · cases h
    · cases h
  · cases h

/-- Elements behind others. -/
theorem cat_RCs {n m sz : Nat} {f g : Nat → List C1} (hfg : ∀ k, (f k).length = sz ∧ (g k).length = sz) {vs : List Value} (h : RCs E (recC n sz f ++ recC m sz g) vs) : RCs E (recC (n + m) sz (catR n f g)) vs := by
  refine ⟨by have := h.1; rw [List.length_append, recC_length, recC_length] at this; rw [recC_length, Nat.add_mul]; exact this, fun j c v hj hv => ?_⟩
  have hjn : j < (n + m) * sz := by have := (List.getElem?_eq_some_iff.1 hj).1; rwa [recC_length] at this
  have hsz : 0 < sz := by
    refine Nat.pos_of_ne_zero fun e0 => ?_
    rw [e0] at hjn; omega
  rw [recC_get _ _ _ hjn] at hj
  simp only [Option.some.injEq] at hj
  subst hj
  have hr : j % sz < sz := Nat.mod_lt _ hsz
  show RC E ((pickL (Nat.blt (j / sz) n) (f (j / sz)) (g (j / sz - n))).getD (j % sz) .em) v
  rw [pickL_get _ _ _ (by rw [(hfg _).1]; exact hr), if_pos (by rw [(hfg _).2]; exact hr)]
  apply pickC_RC
  rw [blt_eq]
  by_cases hk : j / sz < n
  · rw [decide_eq_true hk, cond_true]
    have hj2 : j < n * sz := by rwa [Nat.div_lt_iff_lt_mul hsz] at hk
    exact h.2 j _ v (by rw [List.getElem?_append_left (by rw [recC_length]; exact hj2), recC_get _ _ _ hj2]) hv
  · rw [decide_eq_false hk, cond_false]
    have hj2 : n * sz ≤ j := by
      rw [Nat.div_lt_iff_lt_mul hsz] at hk; omega
    rw [Nat.add_mul] at hjn
    have e1 : (j - n * sz) / sz = j / sz - n := by rw [Nat.mul_comm n sz, Nat.sub_mul_div]
    have e2 : (j - n * sz) % sz = j % sz := by
      have : j = (j - n * sz) + n * sz := by omega
      conv => rhs; rw [this]
      rw [Nat.add_mul_mod_self_right]
    exact h.2 j _ v (by rw [List.getElem?_append_right (by rw [recC_length]; exact hj2), recC_length, recC_get _ _ _ (by omega), e1, e2]) hv

theorem emptyA_spec {x : AV} {u : Value} (h : emptyA x = true) (hx : RV E x u) : ∃ base, u = .slice base 0 0 := by
  unfold emptyA at h
  split at h
  · exact ⟨none, hx.1⟩
  · exact hx
  · cases h

theorem appendR_sound (hT : TabOk P T) (hh : RH B w0 E hp w) {ts : Array TypeId} {ty : TypeId} {x y : AV} {ux uy : Value} (hx : RV E x ux) (hy : RV E y uy) {p : Prop} {v : AV} {hp' : List Blk} (h : appendR T ts x y hp = some (p, v, hp')) (hp1 : p) :
    ∃ u w' E', (Builtin.append_ ts ty #[ux, uy]).run P w = .ok u w' ∧ E <+: E' ∧ RV E' v u ∧ RH B w0 E' hp' w' := by
  unfold appendR at h
  split at h
  · rename_i t u hts
    split at h
    · rename_i e ei he
      split at h
      · rename_i hc
        obtain ⟨rfl, hc1, hc2⟩ := hc
        have hts' : ts = #[t, t] := Array.ext' (by simpa using hts)
        subst hts'
        split at h
        · rename_i p0 i n f gr hX
          split at h
          · rename_i q m g j hY
            split at h
            · cases h
            · rename_i hij
              simp only [Option.some.injEq, Prod.mk.injEq] at h
              obtain ⟨rfl, rfl, rfl⟩ := h
              obtain ⟨hp0, hq, hfg, hb1, hb2⟩ := hp1
              obtain ⟨hm, ay, cap, news, rfl, hr1, hr2, hr3⟩ := recY_spec hh hy hY hq
              -- a block that is there
              have there : ∀ (b : Blk), hp[i]? = some b → b.live = true → b.ro = false → b.elem = e → b.cells = recC n ei.size f → RV E (.one (.sl i 0 n ei.size)) ux →
                  ∃ u w' E', (Builtin.append_ #[t, t] ty #[ux, .slice (some ay) m cap]).run P w = .ok u w' ∧ E <+: E' ∧ RV E' (.one (.sl hp.length 0 (n + m) ei.size)) u ∧ RH B w0 E' (killA hp i ++ [{ body := .rs (n + m) ei.size (catR n f g), elem := e, live := true, ro := false }]) w' := fun b hi hl hro hel hce hx => by
                have hold : oldA hp e ei.size (.one (.sl i 0 n ei.size)) = some (b.cells, some i, n) := by
                  unfold oldA
                  simp only [liveB_of hi hl]
                  rw [if_pos ⟨hro, hel, trivial, trivial, by rw [hce, recC_length]⟩]
                obtain ⟨u', w', E', hrun, hpre, hrv, hrh⟩ := append_core (ty := ty) (capj := cap) hT hh he hc1 hc2 hx hold hr1 hr2 hr3 hm hb1 hb2
                exact ⟨u', w', E', hrun, hpre, hrv, hrh.weaken1 fun _ => ⟨rfl, rfl, id, fun vs hvs => cat_RCs hfg (by rw [hce] at hvs; exact hvs)⟩⟩
              unfold recX at hX
              split at hX
              · rename_i i' n' s
                split at hX
                · rename_i b hb
                  rw [getB_eq] at hb
                  split at hX
                  · rename_i n2 s2 f2 hbd
                    split at hX
                    · rename_i hcc
                      obtain ⟨rfl, rfl, hel, hro, hfu⟩ := hcc
                      simp only [Option.some.injEq, Prod.mk.injEq] at hX
                      obtain ⟨rfl, rfl, rfl, rfl, rfl⟩ := hX
                      obtain ⟨rfl, hlive⟩ := hp0
                      have hce : b.cells = recC n2 ei.size f2 := by rw [Blk.cells, hbd]; rfl
                      rcases hx with ⟨rfl, rfl⟩ | ⟨hn, hx⟩
                      · obtain ⟨u', w', E', hrun, hpre, hrv, hrh⟩ := append_core (ty := ty) (capj := cap) (x := .one (.sc (.slice none 0 0) true)) (cs := []) (src := none) (len := 0) hT hh he hc1 hc2 ⟨rfl, rfl⟩ rfl hr1 hr2 hr3 hm hb1 hb2
                        have hlt : i' < hp.length := (List.getElem?_eq_some_iff.1 hb).1
                        have hk := hrh.kill i' b (by rw [List.getElem?_append_left (by simpa [killO] using hlt)]; exact hb)
                        have hkl : killA hp i' = hp.set i' { b with live := false } := by simp only [killA, getB_eq, hb, hfu, setB_eq]
                        rw [show killO hp none = hp from rfl, List.set_append_left _ _ hlt] at hk
                        rw [← hkl] at hk
                        refine ⟨u', w', E', hrun, hpre, ?_, hk.weaken1 fun _ => ⟨rfl, rfl, id, fun vs hvs => cat_RCs hfg (by simpa [recC] using hvs)⟩⟩
                        obtain ⟨ee, cap', h1, h2, h3, h4, h5⟩ := hrv
                        exact .inr ⟨by omega, ee, cap', h1, h2, h3, h4, h5⟩
                      · have hl : b.live = true := hlive.resolve_left hn
                        obtain ⟨u', w', E', hrun, hpre, hrv, hrh⟩ := there b hb hl hro hel hce hx
                        refine ⟨u', w', E', hrun, hpre, ?_, hrh⟩
                        obtain ⟨ee, cap', h1, h2, h3, h4, h5⟩ := hrv
                        exact .inr ⟨by omega, ee, cap', h1, h2, h3, h4, h5⟩
                    · cases hX
                  · cases hX
                · cases hX
              · rename_i i' n' s
                split at hX
                · rename_i b n2 s2 f2 hb
                  obtain ⟨hi, hl, hbd⟩ := liveR_spec hb
                  split at hX
                  · rename_i hcc
                    obtain ⟨rfl, rfl, hel, hro⟩ := hcc
                    simp only [Option.some.injEq, Prod.mk.injEq] at hX
                    obtain ⟨rfl, rfl, rfl, rfl, rfl⟩ := hX
                    obtain rfl := hp0
                    have hce : b.cells = recC n2 ei.size f2 := by rw [Blk.cells, hbd]; rfl
                    exact there b hi hl hro hel hce hx
                  · cases hX
                · cases hX
              · cases hX
          · cases h
        · split at h
          · rename_i n N s f hem
            split at h
            · rename_i hs
              subst hs
              -- the append itself
              have run : n ≠ 0 → n * ei.bytes ≤ 140737488355328 → n ≤ maxLen → ∃ u w' E', (Builtin.append_ #[t, t] ty #[ux, uy]).run P w = .ok u w' ∧ E <+: E' ∧ E'.length = hp.length + 1 ∧ RV E' (.one (.sl hp.length 0 n ei.size)) u ∧ RH B w0 E' (hp ++ [{ body := .rs n ei.size f, elem := e, live := true, ro := false }]) w' ∧ ∀ x ∈ recC n ei.size f, freeC x := fun hn hb1 hb2 => by
                obtain ⟨ay, cap, news, rfl, _, hr1, hr2, hr3, _, hfr⟩ := lst_cells hh hy hn
                have hold : oldA hp e ei.size x = some ([], none, 0) := by
                  unfold emptyA at hem
                  split at hem
                  · rfl
                  · rfl
                  · cases hem
                obtain ⟨u', w', E', hrun, hpre, hrv, hrh⟩ := append_core (ty := ty) (capj := cap) hT hh he hc1 hc2 hx hold hr1 hr2 hr3 hn (by rw [Nat.zero_add]; exact hb1) (by rw [Nat.zero_add]; exact hb2)
                rw [Nat.zero_add] at hrv
                exact ⟨u', w', E', hrun, hpre, by rw [hrh.len]; simp [killO], hrv, hrh.weaken1 fun _ => ⟨rfl, rfl, id, fun vs hvs => hvs⟩, hfr⟩
              split at h
              · split at h
                · rename_i st
                  simp only [Option.some.injEq, Prod.mk.injEq] at h
                  obtain ⟨rfl, rfl, rfl⟩ := h
                  obtain ⟨rfl, _⟩ : ux = .slice none 0 0 ∧ True := ⟨hx.1, trivial⟩
                  by_cases hn : n = 0
                  · subst hn
                    obtain ⟨hu, hei⟩ := elemT_spec hT he
                    obtain ⟨hu2, inf, hinf, hsz, hby, hz⟩ := hT.ty e ei hei
                    obtain ⟨base', c', rfl⟩ : ∃ base' c', uy = .slice base' 0 c' := by
                      rcases hy with ⟨_, _, base', c', h⟩ | ⟨_, _, _, _, _, _, _, _, _, h, _⟩
                      · exact ⟨base', c', h⟩
                      · exact ⟨_, _, h⟩
                    refine ⟨_, w, E ++ [EB.at 0 0 0], run_append_none t ty e inf hu hinf none 0 0 (Nat.le_refl _) base' c' w, ⟨_, rfl⟩, .inl ⟨rfl, rfl⟩, hh.dead1.weaken (by simp) (fun i b' hi hl => ?_) (snoc_maps fun l h => by cases h)⟩
                    by_cases hib : i < hp.length
                    · rw [List.getElem?_append_left hib] at hi
                      exact ⟨b', by rw [List.getElem?_append_left hib]; exact hi, hl, rfl, id, fun _ h => h⟩
                    · rw [List.getElem?_append_right (by omega)] at hi
                      have h0 := (List.getElem?_eq_some_iff.1 hi).1
                      have h1 : i - hp.length = 0 := by simp at h0; omega
                      rw [h1] at hi
                      simp only [List.getElem?_cons_zero, Option.some.injEq] at hi
                      subst hi
                      cases hl
                  · obtain ⟨u', w', E', h1, h2, _, h3, h4, _⟩ := run hn hp1.1 hp1.2
                    refine ⟨u', w', E', h1, h2, .inr ⟨hn, h3⟩, ?_⟩
                    rw [show Nat.blt 0 n = true from by rw [blt_eq, decide_eq_true_eq]; omega]
                    exact h4
                · simp only [Option.some.injEq, Prod.mk.injEq] at h
                  obtain ⟨rfl, rfl, rfl⟩ := h
                  obtain ⟨u', w', E', h1, h2, _, h3, h4, _⟩ := run hp1.1 hp1.2.1 hp1.2.2
                  exact ⟨u', w', E', h1, h2, h3, h4⟩
              · simp only [Option.some.injEq, Prod.mk.injEq] at h
                obtain ⟨rfl, rfl, rfl⟩ := h
                by_cases hn : n = 0
                · subst hn
                  obtain ⟨hu, hei⟩ := elemT_spec hT he
                  obtain ⟨hu2, inf, hinf, hsz, hby, hz⟩ := hT.ty e ei hei
                  obtain ⟨base, rfl⟩ := emptyA_spec hem hx
                  obtain ⟨base', c', rfl⟩ : ∃ base' c', uy = .slice base' 0 c' := by
                    rcases hy with ⟨_, _, base', c', h⟩ | ⟨_, _, _, _, _, _, _, _, _, h, _⟩
                    · exact ⟨base', c', h⟩
                    · exact ⟨_, _, h⟩
                  exact ⟨_, w, E ++ [EB.at 0 0 0], run_append_none t ty e inf hu hinf base 0 0 (Nat.le_refl _) base' c' w, ⟨_, rfl⟩, .inl ⟨rfl, rfl, base, 0, rfl⟩, hh.dead1⟩
                · obtain ⟨u', w', E', h1, h2, h3, h4, h5, h6⟩ := run hn hp1.1 hp1.2
                  have hlt : hp.length < E'.length := by omega
                  obtain ⟨ee, cap', g1, g2, g3, g4, g5⟩ := h4
                  have hfz := h5.freeze (i := hp.length) (b := { body := .rs n ei.size f, elem := e, live := true, ro := false }) (e := ee) (by simp) g1 rfl rfl h6
                  refine ⟨u', w', _, h1, ?_, ?_, (hfz.weaken (by simp) (fun i b' hi hl => ?_) (snoc_dead fun l h => by cases h) : RH B w0 _ (hp ++ [deadB]) w')⟩
                  · obtain ⟨tt, rfl⟩ := h2
                    have hEl := hh.len
                    rw [← hEl, List.set_append_right _ _ (Nat.le_refl _)]
                    exact ⟨_, rfl⟩
                  · have hee : ee.o = 0 := by
                      obtain ⟨_, _, _, _, ho, _⟩ := h5.own (i := hp.length) (b := { body := .rs n ei.size f, elem := e, live := true, ro := false }) (by simp) g1 rfl rfl
                      exact ho
                    refine .inr ⟨hp.length, _, ee.b, 0, 0, cap', recC n ei.size f, List.getElem?_set_self hlt, .inr ⟨rfl, rfl, rfl⟩, by rw [g2, hee], Nat.le_refl _, g3, g4, by rw [recC_length]; omega, fun k hk => ?_⟩
                    obtain ⟨_, _, _, _, _, _, _, _, hfl, _⟩ := lst_cells hh hy hn
                    rw [Nat.zero_add]
                    exact (recC_at n ei.size f hk (hfl k hk)).symm
                  · by_cases hib : i < hp.length
                    · rw [List.getElem?_append_left hib] at hi
                      rw [List.getElem?_set_ne (by omega), List.getElem?_append_left hib]
                      exact ⟨b', hi, hl, rfl, id, fun _ h => h⟩
                    · rw [List.getElem?_append_right (by omega)] at hi
                      have h0 := (List.getElem?_eq_some_iff.1 hi).1
                      have h1 : i - hp.length = 0 := by simp at h0; omega
                      rw [h1] at hi
                      simp only [List.getElem?_cons_zero, Option.some.injEq] at hi
                      subst hi
                      cases hl
            · cases h
          · cases h
      · cases h
    · cases h
  · cases h

theorem elemsL_len {l : List C1} {s n : Nat} (hl : l.length = n * s) (k : Nat) : (elemsL l s k).length = s := by
  unfold elemsL
  cases h : Nat.beq l.length s with
  | true => exact Nat.eq_of_beq_eq_true h
  | false =>
    show (match Nat.blt (k * s) l.length with | true => (l.drop (k * s)).take s | false => List.replicate s C1.em).length = s
    cases h2 : Nat.blt (k * s) l.length with
    | true =>
      rw [blt_eq, decide_eq_true_eq] at h2
      show ((l.drop (k * s)).take s).length = s
      rw [List.length_take, List.length_drop, hl]
      rw [hl] at h2
      have : k < n := Nat.lt_of_mul_lt_mul_right h2
      have h3 : (k + 1) * s ≤ n * s := Nat.mul_le_mul_right _ this
      rw [Nat.add_mul, Nat.one_mul] at h3
      omega
    | false => exact List.length_replicate

theorem elemsL_rec {l : List C1} {s n : Nat} (hs : s ≠ 0) (hl : l.length = n * s) : recC n s (elemsL l s) = l := by
  refine List.ext_getElem? fun j => ?_
  by_cases hj : j < n * s
  · rw [recC_get _ _ _ hj]
    have hm : j % s < s := Nat.mod_lt _ (by omega)
    have hd := Nat.div_add_mod j s
    unfold elemsL
    cases h : Nat.beq l.length s with
    | true =>
      have h1 := Nat.eq_of_beq_eq_true h
      show some (l.getD (j % s) .em) = l[j]?
      have h0 : j / s = 0 := by rw [Nat.div_eq_zero_iff]; right; omega
      rw [h0] at hd
      rw [List.getD_eq_getElem?_getD, show j % s = j by omega, List.getElem?_eq_getElem (by omega)]
      rfl
    | false =>
      show some ((match Nat.blt (j / s * s) l.length with | true => (l.drop (j / s * s)).take s | false => List.replicate s C1.em).getD (j % s) .em) = l[j]?
      have hlt : j / s * s < l.length := by
        rw [hl]
        refine Nat.lt_of_le_of_lt ?_ hj
        exact Nat.div_mul_le_self j s
      rw [show Nat.blt (j / s * s) l.length = true from by rw [blt_eq, decide_eq_true_eq]; exact hlt]
      show some (((l.drop (j / s * s)).take s).getD (j % s) .em) = l[j]?
      rw [List.getD_eq_getElem?_getD, List.getElem?_take, if_pos hm, List.getElem?_drop, show j / s * s + j % s = j by rw [Nat.mul_comm]; exact hd, List.getElem?_eq_getElem (by omega)]
      rfl
  · have h1 : (recC n s (elemsL l s)).length = n * s := recC_length _ _ _
    rw [List.getElem?_eq_none (by omega), List.getElem?_eq_none (by omega)]

theorem appendL_sound (hT : TabOk P T) (hh : RH B w0 E hp w) {ts : Array TypeId} {ty : TypeId} {x y : AV} {ux uy : Value} (hx : RV E x ux) (hy : RV E y uy) {p : Prop} {v : AV} {hp' : List Blk} (h : appendL T ts x y hp = some (p, v, hp')) (hp1 : p) :
    ∃ u w' E', (Builtin.append_ ts ty #[ux, uy]).run P w = .ok u w' ∧ E <+: E' ∧ RV E' v u ∧ RH B w0 E' hp' w' := by
  unfold appendL at h
  split at h
  · rename_i t u i n s m N s' f hts
    split at h
    · rename_i e ei b he hb
      split at h
      · rename_i l hbd
        split at h
        · rename_i hc
          obtain ⟨rfl, hc1, hc2, hs, hs', hro, hel, hln, hfu⟩ := hc
          subst hs
          subst hs'
          have hts' : ts = #[t, t] := Array.ext' (by simpa using hts)
          subst hts'
          simp only [Option.some.injEq, Prod.mk.injEq] at h
          obtain ⟨rfl, rfl, rfl⟩ := h
          obtain ⟨hfl, hb1, hb2⟩ := hp1
          obtain ⟨hi, hl⟩ := liveB_some hb
          have hce : b.cells = l := by rw [Blk.cells, hbd]; rfl
          have hle : recC n ei.size (elemsL l ei.size) = l := elemsL_rec hc1 hln
          have hcat : ∀ {E' : Env} (vs : List Value), RCs E' (l ++ recC m ei.size f) vs → RCs E' (recC (n + m) ei.size (catR n (elemsL l ei.size) f)) vs := fun {E'} vs hv => by
            refine cat_RCs (fun k => ⟨elemsL_len hln k, hfl k⟩) ?_
            rw [hle]; exact hv
          by_cases hm : m = 0
          · subst hm
            obtain ⟨hu, hei⟩ := elemT_spec hT he
            obtain ⟨hu2, inf, hinf, hsz, hby, hz⟩ := hT.ty e ei hei
            obtain ⟨ex, cap, hex, rfl, h1, h2, h3⟩ := hx
            obtain ⟨base', c', rfl⟩ : ∃ base' c', uy = .slice base' 0 c' := by
              rcases hy with ⟨_, _, base', c', h⟩ | ⟨_, _, _, _, _, _, _, _, _, h, _⟩
              · exact ⟨base', c', h⟩
              · exact ⟨_, _, h⟩
            have hEl := hh.len
            have hk : killA hp i = hp.set i { b with live := false } := by simp only [killA, getB_eq, hi, hfu, setB_eq]
            have hmv := hh.move hi hex (hh.noMap hi hl)
            rw [← hk] at hmv
            refine ⟨_, w, E ++ [ex], run_append_none t ty e inf hu hinf _ n cap h1 base' c' w, ⟨_, rfl⟩, ⟨ex, cap, by rw [← hEl]; simp, rfl, h1, h2, h3⟩, hmv.weaken1 fun _ => ⟨hl, by rw [hel, hfu], fun _ => hro, fun vs hvs => ?_⟩⟩
            refine hcat vs ?_
            rw [hce] at hvs
            rw [show recC 0 ei.size f = [] from by unfold recC; simp, List.append_nil]
            exact hvs
          · obtain ⟨ay, cap, news, rfl, _, hr1, hr2, hr3, _, hfr⟩ := lst_cells hh hy hm
            have hold : oldA hp e ei.size (.one (.sl i 0 n ei.size)) = some (b.cells, some i, n) := by
              unfold oldA
              simp only [hb]
              rw [if_pos ⟨hro, hel, trivial, trivial, by rw [hce]; exact hln.symm⟩]
            obtain ⟨u', w', E', hrun, hpre, hrv, hrh⟩ := append_core (ty := ty) (capj := cap) hT hh he hc1 hc2 hx hold hr1 hr2 hr3 hm hb1 hb2
            exact ⟨u', w', E', hrun, hpre, hrv, hrh.weaken1 fun _ => ⟨rfl, rfl, id, fun vs hvs => hcat vs (by rw [hce] at hvs; exact hvs)⟩⟩
        · cases h
      · cases h
    · cases h
  · cases h

theorem appendCall_sound (hT : TabOk P T) (hh : RH B w0 E hp w) (ht : RT E tm a.tmps) (o : Oper) {c : Call} (ho : o.op = .call c) (hc : c.callee = .builtin .append) {x y : Operand} (hxy : c.args.toList = [x, y])
    (h : appendK T c.argTypes (evalO tm x) (evalO tm y) hp K) : Out K B w0 E ((execOp a.eval o).run P w) := by
  have hargs : c.args = #[x, y] := Array.ext' (by simpa using hxy)
  unfold appendK at h
  split at h
  · rename_i p v hp' hv
    obtain ⟨u, w', E', hr, hpre, hrv, hrh⟩ := appendR_sound (ty := o.type) hT hh (ht.eval x) (ht.eval y) hv h.1
    simp only [execOp, ho, resolve, hc, hargs, invoke, builtin, Sem.run_bind, Sem.run_pure, Result.andThen_ok, List.map_toArray, List.map_cons, List.map_nil, hr]
    exact ⟨v, hp', E', u, w', .inl rfl, h.2, hpre, hrv, hrh⟩
  split at h
  · rename_i p v hp' hv
    obtain ⟨u, w', E', hr, hpre, hrv, hrh⟩ := appendL_sound (ty := o.type) hT hh (ht.eval x) (ht.eval y) hv h.1
    simp only [execOp, ho, resolve, hc, hargs, invoke, builtin, Sem.run_bind, Sem.run_pure, Result.andThen_ok, List.map_toArray, List.map_cons, List.map_nil, hr]
    exact ⟨v, hp', E', u, w', .inl rfl, h.2, hpre, hrv, hrh⟩
  split at h
  · rename_i p v hp' hv
    obtain ⟨u, w', E', hr, hpre, hrv, hrh⟩ := appendS_sound (ty := o.type) hT hh (ht.eval x) (ht.eval y) hv h.1
    simp only [execOp, ho, resolve, hc, hargs, invoke, builtin, Sem.run_bind, Sem.run_pure, Result.andThen_ok, List.map_toArray, List.map_cons, List.map_nil, hr]
    exact ⟨v, hp', E', u, w', .inl rfl, h.2, hpre, hrv, hrh⟩
  split at h
  · rename_i p v hp' hv
    obtain ⟨u, w', E', hr, hpre, hrv, hrh⟩ := appendT_sound (ty := o.type) hT hh (ht.eval x) (ht.eval y) hv h.1
    simp only [execOp, ho, resolve, hc, hargs, invoke, builtin, Sem.run_bind, Sem.run_pure, Result.andThen_ok, List.map_toArray, List.map_cons, List.map_nil, hr]
    exact ⟨v, hp', E', u, w', .inl rfl, h.2, hpre, hrv, hrh⟩
  split at h
  · rename_i v hp' hv
    obtain ⟨u, w', E', hr, hpre, hrv, hrh⟩ := append_sound (ty := o.type) hT hh (ht.eval x) (ht.eval y) hv
    simp only [execOp, ho, resolve, hc, hargs, invoke, builtin, Sem.run_bind, Sem.run_pure, Result.andThen_ok, List.map_toArray, List.map_cons, List.map_nil, hr]
    exact ⟨v, hp', E', u, w', .inl rfl, h, hpre, hrv, hrh⟩
  · exact h.elim

theorem lenCall_sound (hT : TabOk P T) (_hh : RH B w0 E hp w) (ht : RT E tm a.tmps) (o : Oper) {c : Call} (ho : o.op = .call c) (hc : c.callee = .builtin .len) {x : Operand} (hxy : c.args.toList = [x])
    {i off len sz : Nat} (hx : evalO tm x = .one (.sl i off len sz)) {ti : TI} (hti : (c.argTypes[0]?).bind T.ty = some ti) {e : TypeId} (hd : ti.desc = .slice e)
    {st : Bool} (h : K (.one (.sc (.int .i64 len) st)) hp) : QOut P K E hp w (execOp a.eval o) := by
  have hx' := ht.eval x
  rw [hx] at hx'
  obtain ⟨e1, cap, _, hx', _⟩ := hx'
  have hargs : c.args = #[x] := Array.ext' (by simpa using hxy)
  simp only [Option.bind_eq_some_iff] at hti
  obtain ⟨t, ht0, hti⟩ := hti
  obtain ⟨hu, _⟩ := hT.ty t ti hti
  refine ⟨_, _, h, ⟨rfl, rfl⟩, fun w' hw' => ?_⟩
  rw [hd] at hu
  simp only [execOp, ho, resolve, hc, hargs, invoke, builtin, Sem.run_bind, Sem.run_pure, Result.andThen_ok, List.map_toArray, List.map_cons, List.map_nil, Builtin.len_, ht0, List.getElem?_toArray, List.getElem?_cons_zero, run_underlying hu, hx', goInt]

theorem Body.len_eq (b : Body) : b.cells.length = b.len := by
  cases b with
  | li l => rfl
  | sy n g => simp [Body.cells, Body.len, symC]
  | rs n sz f => simp [Body.cells, Body.len, recC]
  | mp l => rfl

theorem boundO_spec (ht : RT E tm a.tmps) {x : Option Operand} {r : Option (Int × Bool)} (h : boundO tm x = some r) : (x = none ∧ r = none) ∨ ∃ k n st, x.map a.eval = some (.int k n) ∧ r = some (n, st) := by
  cases x with
  | none => simp only [boundO, Option.some.injEq] at h; exact .inl ⟨rfl, h.symm⟩
  | some x =>
    simp only [boundO] at h
    split at h
    · rename_i k n st hx
      simp only [Option.some.injEq] at h
      have := ht.eval x
      rw [hx] at this
      exact .inr ⟨k, n, st, by rw [Option.map_some, this.1], h.symm⟩
    · cases h

theorem bounds_run (ht : RT E tm a.tmps) {lo hi : Option Operand} {l h : Option (Int × Bool)} (hl : boundO tm lo = some l) (hh : boundO tm hi = some h) (s : Bool) (len cap : Nat) (_hc : len ≤ cap)
    (h0 : 0 ≤ boundV 0 l) (h1 : boundV 0 l ≤ boundV len h) (h2 : boundV len h ≤ cap) (w : World) :
    (Instr.sliceBounds s len cap (lo.map a.eval) (hi.map a.eval) none).run P w = .ok ((boundV 0 l).toNat, (boundV len h).toNat, cap) w := by
  have e : ((boundV len h).toNat : Int) = boundV len h := Int.toNat_of_nonneg (by omega)
  rcases boundO_spec ht hl with ⟨rfl, rfl⟩ | ⟨k, n, st, hx, rfl⟩ <;> rcases boundO_spec ht hh with ⟨rfl, rfl⟩ | ⟨k', n', st', hx', rfl⟩
  · simp [Instr.sliceBounds, boundV]
  · simp only [boundV] at *
    simp [Instr.sliceBounds, hx', run_sliceBound (P := P) w k' n' cap _ (by omega) h2]
  · simp only [boundV] at *
    simp [Instr.sliceBounds, hx, run_sliceBound (P := P) w k n len _ h0 h1]
  · simp only [boundV] at *
    simp [Instr.sliceBounds, hx, hx', run_sliceBound (P := P) w k' n' cap _ (by omega) h2, run_sliceBound (P := P) w k n n'.toNat _ h0 (by omega)]

theorem sliceO_spec {st : Bool} {l h : Int} {n i off sz : Nat} {p : Option Prop} {v : AV} (hs : sliceO st l h n i off sz = some (p, v)) (hp : ∀ q, p = some q → q) :
    (0 ≤ l ∧ l ≤ h ∧ h ≤ n ∧ (l < n ∨ l = 0)) ∧ v = .one (.sl i (off + l.toNat * sz) (h - l).toNat sz) := by
  unfold sliceO at hs
  split at hs
  · split at hs
    · rename_i hc
      simp only [Option.some.injEq, Prod.mk.injEq] at hs
      exact ⟨hc, by rw [← hs.2, placeN_eq]⟩
    · cases hs
  · simp only [Option.some.injEq, Prod.mk.injEq] at hs
    exact ⟨hp _ hs.1.symm, by rw [← hs.2, placeN_eq]⟩

theorem sliceL_run (hT : TabOk P T) (ht : RT E tm a.tmps) {t : TypeId} {x : Operand} {lo hi mx : Option Operand} {p : Option Prop} {v : AV} (hv : sliceL T t x lo hi mx tm = some (p, v)) (hp1 : ∀ q, p = some q → q) :
    ∃ u, RV E v u ∧ ∀ w', (Instr.sliceAt t (a.eval x) (lo.map a.eval) (hi.map a.eval) (mx.map a.eval)).run P w' = .ok u w' := by
  unfold sliceL at hv
  split at hv
  · rename_i n N sz f hx
    have hx' := ht.eval x
    rw [hx] at hx'
    split at hv
    · rename_i ti l h' hti hl hh'
      obtain ⟨hu, _⟩ := hT.ty t ti hti
      split at hv
      · rename_i e hd
        rw [hd] at hu
        split at hv
        · rename_i ei hei
          obtain ⟨_, inf, hinf, hsz, _⟩ := hT.ty e ei hei
          split at hv
          · rename_i hszz
            split at hv
            · -- without a third bound
              have gen : (0 ≤ boundV 0 l ∧ boundV 0 l ≤ boundV n h' ∧ boundV n h' ≤ N) → ∃ u, RC E (.lst (boundV n h' - boundV 0 l).toNat (N - (boundV 0 l).toNat) sz (fun k => f ((boundV 0 l).toNat + k))) u ∧ ∀ w', (Instr.sliceAt t (a.eval x) (lo.map a.eval) (hi.map a.eval) none).run P w' = .ok u w' := fun hc => by
                obtain ⟨base, cap, hxe, hnc, hNc⟩ : ∃ base cap, a.eval x = .slice base n cap ∧ n ≤ cap ∧ N ≤ cap := by
                  rcases hx' with ⟨rfl, rfl, base, cap, h⟩ | ⟨_, _, _, _, _, cap, _, _, _, h, h1, h2, _⟩
                  · exact ⟨base, cap, h, by omega, by omega⟩
                  · exact ⟨_, cap, h, by omega, h2⟩
                have hrun : ∀ w', (Instr.sliceAt t (a.eval x) (lo.map a.eval) (hi.map a.eval) none).run P w' = .ok (.slice (if cap = (boundV 0 l).toNat then base else base.map (·.add ((boundV 0 l).toNat * sz))) (boundV n h' - boundV 0 l).toNat (cap - (boundV 0 l).toNat)) w' := fun w' => by
                  have hb := bounds_run (P := P) ht hl hh' true n cap hnc hc.1 hc.2.1 (by omega) w'
                  have e3 : (boundV n h').toNat - (boundV 0 l).toNat = (boundV n h' - boundV 0 l).toNat := by omega
                  simp only [Instr.sliceAt, Instr.slice, Sem.run_bind, run_underlying hu, Result.andThen_ok, hxe, Sem.run_pure, hb, sizeOf_run hinf, hsz, ← hszz, e3]
                refine ⟨_, ?_, hrun⟩
                by_cases hz : boundV n h' - boundV 0 l = 0 ∧ N - (boundV 0 l).toNat = 0
                · exact .inl ⟨by omega, hz.2, _, _, by rw [hz.1]; rfl⟩
                · rcases hx' with ⟨rfl, rfl, _⟩ | ⟨j, ee, b, q, o, cap', cs, he, hz', hxe', h1, h2, h3, h4, h5⟩
                  · omega
                  · rw [hxe] at hxe'
                    simp only [Value.slice.injEq] at hxe'
                    obtain ⟨rfl, _, rfl⟩ := hxe'
                    have hne : ¬cap = (boundV 0 l).toNat := by omega
                    rw [if_neg hne]
                    have hlN : (boundV 0 l).toNat ≤ N := by omega
                    have e1 : (N - (boundV 0 l).toNat) * sz + (boundV 0 l).toNat * sz = N * sz := by rw [← Nat.add_mul]; congr 1; omega
                    refine .inr ⟨j, ee, b, q, o + (boundV 0 l).toNat * sz, cap - (boundV 0 l).toNat, cs, he, hz', by rw [Option.map_some, add_row, Nat.add_assoc], by omega, by omega, by omega, by omega, fun k hk => ?_⟩
                    have hk2 : (boundV 0 l).toNat + k < N := by omega
                    show f ((boundV 0 l).toNat + k) = _
                    rw [h5 _ hk2, Nat.add_mul, ← Nat.add_assoc]
              split at hv
              · simp only [Option.some.injEq, Prod.mk.injEq] at hv
                obtain ⟨rfl, rfl⟩ := hv
                have hc := hp1 _ rfl
                obtain ⟨u, h1, h2⟩ := gen ⟨Int.le_refl 0, hc.1, hc.2⟩
                refine ⟨u, ?_, h2⟩
                have h1 : RC E (.lst (boundV n h' - 0).toNat (N - 0) sz (fun k => f (0 + k))) u := h1
                have e0 : (fun k => f (0 + k)) = f := funext fun k => by rw [Nat.zero_add]
                rw [Int.sub_zero, Nat.sub_zero, e0] at h1
                exact h1
              · simp only [Option.some.injEq, Prod.mk.injEq] at hv
                obtain ⟨rfl, rfl⟩ := hv
                exact gen (hp1 _ rfl)
            · rename_i m
              split at hv
              · rename_i k m' hm
                split at hv
                · rename_i hz
                  obtain ⟨rfl, hz1, hz2⟩ := hz
                  simp only [Option.some.injEq, Prod.mk.injEq] at hv
                  obtain ⟨rfl, rfl⟩ := hv
                  have hm' := ht.eval m
                  rw [hm] at hm'
                  have hm' := hm'.1
                  obtain ⟨base, cap, hxe⟩ : ∃ base cap, a.eval x = .slice base n cap := by
                    rcases hx' with ⟨rfl, rfl, base, cap, h⟩ | ⟨_, _, _, _, _, cap, _, _, _, h, _⟩
                    · exact ⟨base, cap, h⟩
                    · exact ⟨_, cap, h⟩
                  refine ⟨.slice base 0 0, ⟨base, rfl⟩, fun w' => ?_⟩
                  rcases boundO_spec ht hh' with ⟨rfl, rfl⟩ | ⟨k', n', st', hxh, rfl⟩
                  · simp [boundV] at hz1
                  · simp only [boundV] at hz1
                    subst hz1
                    rcases boundO_spec ht hl with ⟨rfl, rfl⟩ | ⟨k2, n2, st2, hxl, rfl⟩
                    · simp [Instr.sliceAt, Instr.slice, run_underlying hu, hxe, Instr.sliceBounds, hm', hxh, run_sliceBound (P := P), sizeOf_run hinf]
                    · simp only [boundV] at hz2
                      subst hz2
                      simp [Instr.sliceAt, Instr.slice, run_underlying hu, hxe, Instr.sliceBounds, hm', hxh, hxl, run_sliceBound (P := P), sizeOf_run hinf]
                · cases hv
              · cases hv
          · cases hv
        · cases hv
      · cases hv
    · cases hv
  · cases hv

theorem slice_sound (hT : TabOk P T) (hh : RH B w0 E hp w) (ht : RT E tm a.tmps) (o : Oper) {t : TypeId} {x : Operand} {lo hi mx : Option Operand} (ho : o.op = .slice t x lo hi mx) (h : opSlice P T o t x lo hi mx tm hp K) : QOut P K E hp w (execOp a.eval o) := by
  unfold opSlice at h
  split at h
  · rename_i p v hv
    have hpK : (∀ q, p = some q → q) ∧ K v hp := by
      cases p with
      | none => exact ⟨(fun q e => by cases e), h⟩
      | some p => exact ⟨(fun q e => by cases e; exact h.1), h.2⟩
    obtain ⟨hp1, hK⟩ := hpK
    refine ⟨v, ?_⟩
    suffices hs : ∃ u, RV E v u ∧ ∀ w', (Instr.sliceAt t (a.eval x) (lo.map a.eval) (hi.map a.eval) (mx.map a.eval)).run P w' = .ok u w' by
      obtain ⟨u, hr, hrun⟩ := hs
      refine ⟨u, hK, hr, fun w' _ => ?_⟩
      simp only [execOp, ho, Sem.run_bind, hrun w', Result.andThen_ok, Sem.run_pure]
    unfold sliceA at hv
    split at hv
    · rename_i ti l h' hti hl hh'
      obtain ⟨hu, _⟩ := hT.ty t ti hti
      split at hv
      · rename_i n e hd
        split at hv
        · rename_i i off ei hx hei
          obtain ⟨_, inf, hinf, hsz, _⟩ := hT.ty e ei hei
          have hx' := ht.eval x
          rw [hx] at hx'
          obtain ⟨eb, heb, hx'⟩ := hx'
          split at hv
          · rename_i b hb
            obtain ⟨hi', hlive⟩ := liveB_some hb
            obtain ⟨c, fz, hc, h1, h2, ⟨h3, _⟩, h4⟩ := hh.blk i b eb hi' heb hlive
            split at hv
            · rename_i hfit
              obtain ⟨hc, rfl⟩ := sliceO_spec hv hp1
              rw [← Body.len_eq] at hfit
              have hcl : (boundV 0 l).toNat ≤ n ∧ ((boundV 0 l).toNat = n → n = 0) := by omega
              refine ⟨.slice (some ⟨eb.b, eb.o + (off + (boundV 0 l).toNat * ei.size), none⟩) (boundV n h' - boundV 0 l).toNat (n - (boundV 0 l).toNat), ⟨eb, n - (boundV 0 l).toNat, heb, rfl, by omega, by omega, ?_⟩, fun w' => ?_⟩
              · have : b.body.cells.length ≤ eb.n := h3
                have e2 : (boundV 0 l).toNat * ei.size + (n - (boundV 0 l).toNat) * ei.size = n * ei.size := by rw [← Nat.add_mul]; congr 1; omega
                omega
              · rw [hd] at hu
                have hb := bounds_run (P := P) ht hl hh' false n n (Nat.le_refl _) hc.1 hc.2.1 hc.2.2.1 w'
                simp only [Instr.sliceAt, Sem.run_bind, run_underlying hu, Result.andThen_ok, hx', Instr.sureAddr, Sem.run_pure, Option.map_none, hb, sizeOf_run hinf, hsz]
                have e3 : (boundV n h').toNat - (boundV 0 l).toNat = (boundV n h' - boundV 0 l).toNat := by omega
                rw [e3]
                by_cases hz : n = (boundV 0 l).toNat
                · have : n = 0 := hcl.2 hz.symm
                  rw [if_pos hz, ← hz, this]; simp
                · rw [if_neg hz, add_row, Nat.add_assoc]
            · cases hv
          · cases hv
        · cases hv
      · rename_i e hd
        rw [hd] at hu
        split at hv
        · rename_i i off len sz ei hx hei
          obtain ⟨_, inf, hinf, hsz, _⟩ := hT.ty e ei hei
          have hx' := ht.eval x
          rw [hx] at hx'
          obtain ⟨eb, cap, heb, hx', hlc, hcm, hcn⟩ := hx'
          split at hv
          · rename_i hszz
            split at hv
            · obtain ⟨hc, rfl⟩ := sliceO_spec hv hp1
              refine ⟨.slice (some ⟨eb.b, eb.o + (off + (boundV 0 l).toNat * sz), none⟩) (boundV len h' - boundV 0 l).toNat (cap - (boundV 0 l).toNat), ⟨eb, cap - (boundV 0 l).toNat, heb, rfl, by omega, by omega, ?_⟩, fun w' => ?_⟩
              · have e2 : (boundV 0 l).toNat * sz + (cap - (boundV 0 l).toNat) * sz = cap * sz := by rw [← Nat.add_mul]; congr 1; omega
                omega
              · have hb := bounds_run (P := P) ht hl hh' true len cap hlc hc.1 hc.2.1 (by omega) w'
                simp only [Instr.sliceAt, Instr.slice, Sem.run_bind, run_underlying hu, Result.andThen_ok, hx', Sem.run_pure, Option.map_none, hb, sizeOf_run hinf, hsz]
                have e3 : (boundV len h').toNat - (boundV 0 l).toNat = (boundV len h' - boundV 0 l).toNat := by omega
                rw [e3, ← hszz]
                by_cases hz : cap = (boundV 0 l).toNat
                · have : (boundV 0 l).toNat = 0 := by omega
                  rw [if_pos hz, this]; simp
                · rw [if_neg hz, Option.map_some, add_row, Nat.add_assoc]
            · rename_i m
              split at hv
              · rename_i k m' hm
                split at hv
                · rename_i hz
                  obtain ⟨rfl, hz1, hz2⟩ := hz
                  simp only [Option.some.injEq, Prod.mk.injEq] at hv
                  obtain ⟨rfl, rfl⟩ := hv
                  have hm' := ht.eval m
                  rw [hm] at hm'
                  have hm' := hm'.1
                  refine ⟨.slice (some ⟨eb.b, eb.o + off, none⟩) 0 0, ⟨eb, heb, rfl⟩, fun w' => ?_⟩
                  rcases boundO_spec ht hh' with ⟨rfl, rfl⟩ | ⟨k', n', st', hxh, rfl⟩
                  · simp [boundV] at hz1
                  · simp only [boundV] at hz1
                    subst hz1
                    rcases boundO_spec ht hl with ⟨rfl, rfl⟩ | ⟨k2, n2, st2, hxl, rfl⟩
                    · simp [Instr.sliceAt, Instr.slice, run_underlying hu, hx', Instr.sliceBounds, hm', hxh, run_sliceBound (P := P), sizeOf_run hinf]
                    · simp only [boundV] at hz2
                      subst hz2
                      simp [Instr.sliceAt, Instr.slice, run_underlying hu, hx', Instr.sliceBounds, hm', hxh, hxl, run_sliceBound (P := P), sizeOf_run hinf]
                · cases hv
              · cases hv
          · cases hv
        · cases hv
      · cases hv
    · cases hv
  · split at h
    · rename_i p v hv
      have hpK : (∀ q, p = some q → q) ∧ K v hp := by
        cases p with
        | none => exact ⟨(fun q e => by cases e), h⟩
        | some p => exact ⟨(fun q e => by cases e; exact h.1), h.2⟩
      obtain ⟨u, hr, hrun⟩ := sliceL_run hT ht hv hpK.1
      refine ⟨v, u, hpK.2, hr, fun w' _ => ?_⟩
      simp only [execOp, ho, Sem.run_bind, hrun w', Result.andThen_ok, Sem.run_pure]
    · exact scal_sound hh ht o (fun cs b e => by rw [ho] at e; cases e) h

theorem ptrsA_spec (ht : RT E tm a.tmps) : ∀ (xs : List Operand) (ps : List (Nat × Nat)), ptrsA (xs.map (evalO tm)) = some ps →
    (xs.map a.eval).length = ps.length ∧ ∀ (j : Nat) (p : Nat × Nat) (v : Value), ps[j]? = some p → (xs.map a.eval)[j]? = some v → ∃ e, E[p.1]? = some e ∧ v = .pointer (some ⟨e.b, e.o + p.2, none⟩)
  | [], ps, h => by simp only [List.map_nil, ptrsA, Option.some.injEq] at h; subst h; simp
  | x :: xs, ps, h => by
    simp only [List.map_cons] at h
    unfold ptrsA at h
    split at h
    · rename_i heq; cases heq
    · rename_i i off l heq
      simp only [List.cons.injEq] at heq
      obtain ⟨hx, rfl⟩ := heq
      simp only [Option.map_eq_some_iff] at h
      obtain ⟨qs, hqs, rfl⟩ := h
      obtain ⟨h1, h2⟩ := ptrsA_spec ht xs qs hqs
      refine ⟨by simpa using h1, fun j p v hp hv => ?_⟩
      cases j with
      | zero =>
        simp only [List.getElem?_cons_zero, Option.some.injEq, List.map_cons] at hp hv
        subst hp; subst hv
        have := ht.eval x
        rw [hx] at this
        exact this
      | succ j =>
        simp only [List.getElem?_cons_succ, List.map_cons] at hp hv
        exact h2 j p v hp hv
    · cases h

theorem mkFunc_sound (_hh : RH B w0 E hp w) (ht : RT E tm a.tmps) (o : Oper) {f : Fn} {first caps : Array Operand} (ho : o.op = .makeFunc f first caps) (h : opMkFunc f first caps tm hp K) : QOut P K E hp w (execOp a.eval o) := by
  unfold opMkFunc at h
  split at h
  · rename_i f' hf
    split at h
    · rename_i ps hps
      obtain ⟨h1, h2⟩ := ptrsA_spec ht _ ps hps
      have hfirst : first = #[] := Array.ext' (by simpa using hf)
      subst hfirst
      refine ⟨_, .func (.func f') #[] (caps.toList.map a.eval).toArray, h, ⟨_, rfl, h1, h2⟩, fun w' _ => ?_⟩
      have : caps.map a.eval = (caps.toList.map a.eval).toArray := by apply Array.ext'; simp
      simp only [execOp, ho, Instr.makeFunc, Sem.run_bind, Sem.run_pure, Result.andThen_ok, this, Array.map_empty]
    · exact h.elim
  · exact h.elim

theorem lenEm_sound (hT : TabOk P T) (_hh : RH B w0 E hp w) (ht : RT E tm a.tmps) (o : Oper) {c : Call} (ho : o.op = .call c) (hc : c.callee = .builtin .len) {x : Operand} (hxy : c.args.toList = [x])
    (hx : evalO tm x = .one .em) {ti : TI} (hti : (c.argTypes[0]?).bind T.ty = some ti) {e : TypeId} (hd : ti.desc = .slice e) (h : K (.one (.sc (.int .i64 0) true)) hp) : QOut P K E hp w (execOp a.eval o) := by
  have hx' := ht.eval x
  rw [hx] at hx'
  obtain ⟨base, cap, hx'⟩ := hx'
  have hargs : c.args = #[x] := Array.ext' (by simpa using hxy)
  simp only [Option.bind_eq_some_iff] at hti
  obtain ⟨t, ht0, hti⟩ := hti
  obtain ⟨hu, _⟩ := hT.ty t ti hti
  refine ⟨_, _, h, ⟨rfl, rfl⟩, fun w' hw' => ?_⟩
  rw [hd] at hu
  simp only [execOp, ho, resolve, hc, hargs, invoke, builtin, Sem.run_bind, Sem.run_pure, Result.andThen_ok, List.map_toArray, List.map_cons, List.map_nil, Builtin.len_, ht0, List.getElem?_toArray, List.getElem?_cons_zero, run_underlying hu, hx', goInt]
  rfl

theorem lenV_sound (hT : TabOk P T) (_hh : RH B w0 E hp w) (o : Oper) {c : Call} (ho : o.op = .call c) (hc : c.callee = .builtin .len) {x : Operand} (hxy : c.args.toList = [x])
    {n : Nat} (hx' : ∃ base cap, a.eval x = .slice base n cap) {ti : TI} (hti : (c.argTypes[0]?).bind T.ty = some ti) {e : TypeId} (hd : ti.desc = .slice e) (h : K (.one (.sc (.int .i64 n) false)) hp) : QOut P K E hp w (execOp a.eval o) := by
  obtain ⟨base, cap, hx'⟩ := hx'
  have hargs : c.args = #[x] := Array.ext' (by simpa using hxy)
  simp only [Option.bind_eq_some_iff] at hti
  obtain ⟨t, ht0, hti⟩ := hti
  obtain ⟨hu, _⟩ := hT.ty t ti hti
  refine ⟨_, _, h, ⟨rfl, rfl⟩, fun w' hw' => ?_⟩
  rw [hd] at hu
  simp only [execOp, ho, resolve, hc, hargs, invoke, builtin, Sem.run_bind, Sem.run_pure, Result.andThen_ok, List.map_toArray, List.map_cons, List.map_nil, Builtin.len_, ht0, List.getElem?_toArray, List.getElem?_cons_zero, run_underlying hu, hx', goInt]

/-- A quiet operation, calls of Go functions apart. -/
theorem quiet_sound (hT : TabOk P T) (hh : RH B w0 E hp w) (ht : RT E tm a.tmps) (o : Oper) (hq : quietOp o = true) (_hc : callee? o = none) (h : opK0 P T o tm hp K) : QOut P K E hp w (execOp a.eval o) := by
  cases ho : o.op with
  | move x =>
    refine ⟨_, _, (by simpa only [opK0, ho, opPick, opExtract, opAlloc, opBox, opLoad, opStore, opNil, opFAddr, opField, opIAddr, opIndex, opBuild, opBSlice, opSlice, opMkFunc, opMakeSlice, opCall, opConv] using h : K (evalO tm x) hp), ht.eval x, fun w' _ => ?_⟩
    simp only [execOp, ho, Sem.run_pure]
  | assign x =>
    refine ⟨_, _, (by simpa only [opK0, ho, opPick, opExtract, opAlloc, opBox, opLoad, opStore, opNil, opFAddr, opField, opIAddr, opIndex, opBuild, opBSlice, opSlice, opMkFunc, opMakeSlice, opCall, opConv] using h : K (evalO tm x) hp), ht.eval x, fun w' _ => ?_⟩
    simp only [execOp, ho, Sem.run_pure]
  | pick c x y => exact pick_sound hh ht o ho h
  | extract x i => exact extract_sound hh ht o ho h
  | load t x => exact load_sound hT hh ht o ho h
  | nilCheck x => exact nilCheck_sound hh ht o ho h
  | fieldAddr s x f => exact fieldAddr_sound hT hh ht o ho h
  | field s x f => exact field_sound hT hh ht o ho h
  | indexAddr t x i => exact indexAddr_sound hT hh ht o ho h
  | index t x i => exact index_sound hT hh ht o ho h
  | build t ps => exact build_sound hT hh ht o ho h
  | convert s d x => exact convert_sound hT hh ht o ho h
  | binOp op t x y u =>
    refine bin_sound hT hh ht o ho ?_
    simpa only [opK0, ho, opPick, opExtract, opAlloc, opBox, opLoad, opStore, opNil, opFAddr, opField, opIAddr, opIndex, opBuild, opBSlice, opSlice, opMkFunc, opMakeSlice, opCall, opConv] using h
  | slice t x lo hi mx =>
    refine slice_sound hT hh ht o ho ?_
    simpa only [opK0, ho] using h
  | makeFunc f first caps =>
    refine mkFunc_sound hh ht o ho ?_
    simpa only [opK0, ho] using h
  | makeInterface t x =>
    refine scal_sound hh ht o (fun cs b e => by rw [ho] at e; cases e) ?_
    simpa only [opK0, ho] using h
  | unOp op t x =>
    refine scal_sound hh ht o (fun cs b e => by rw [ho] at e; cases e) ?_
    simpa only [opK0, ho, opPick, opExtract, opAlloc, opBox, opLoad, opStore, opNil, opFAddr, opField, opIAddr, opIndex, opBuild, opBSlice, opSlice, opMkFunc, opMakeSlice, opCall, opConv] using h
  | call c =>
    have hsel : ∀ cs b, o.op ≠ .select cs b := fun cs b e => by rw [ho] at e; cases e
    simp only [opK0, ho, opPick, opExtract, opAlloc, opBox, opLoad, opStore, opNil, opFAddr, opField, opIAddr, opIndex, opBuild, opBSlice, opSlice, opMkFunc, opMakeSlice, opCall, opConv] at h
    split at h
    · rename_i hc; simp only [quietOp, ho, hc] at hq; cases hq
    · rename_i hc
      split at h
      · rename_i x hxy
        split at h
        · rename_i i off len sz ti hx hti
          split at h
          · rename_i e hd; exact lenCall_sound hT hh ht o ho hc hxy hx hti hd h
          · exact h.elim
        · rename_i ti hx hti
          split at h
          · rename_i e hd; exact lenEm_sound hT hh ht o ho hc hxy hx hti hd h
          · exact h.elim
        · rename_i n N sz f ti hx hti
          split at h
          · rename_i e hd
            have hx' := ht.eval x
            rw [hx] at hx'
            refine lenV_sound hT hh o ho hc hxy (n := n) ?_ hti hd h
            rcases hx' with ⟨rfl, _, base, cap, h3⟩ | ⟨_, _, _, _, _, cap, _, _, _, h3, _⟩
            · exact ⟨_, _, h3⟩
            · exact ⟨_, _, h3⟩
          · exact h.elim
        · rename_i i n sz ti hx hti
          split at h
          · rename_i e hd
            have hx' := ht.eval x
            rw [hx] at hx'
            refine lenV_sound hT hh o ho hc hxy (n := n) ?_ hti hd h
            rcases hx' with ⟨rfl, h3⟩ | ⟨_, _, _, _, h3, _⟩
            · exact ⟨_, _, h3⟩
            · exact ⟨_, _, h3⟩
          · exact h.elim
        · exact scal_sound hh ht o hsel h
      · exact h.elim
    · rename_i hc; simp only [quietOp, ho, hc] at hq; cases hq
    · rename_i hc
      exact mnmx_sound hh ht o ho (great := false) hc h
    · rename_i hc
      exact mnmx_sound hh ht o ho (great := true) hc h
    · split at h
      all_goals first | exact scal_sound hh ht o hsel h | exact h.elim
    · exact h.elim
  | _ => simp only [quietOp, ho] at hq; cases hq

/-! ### copy -/

theorem copy_sound (hT : TabOk P T) (hh : RH B w0 E hp w) (ht : RT E tm a.tmps) (o : Oper) {c : Call} (ho : o.op = .call c) (hc : c.callee = .builtin .copy) {x y : Operand} (hxy : c.args.toList = [x, y])
    (h : opCopy T c.argTypes (evalO tm x) (evalO tm y) hp K) : Out K B w0 E ((execOp a.eval o).run P w) := by
  have hargs : c.args = #[x, y] := Array.ext' (by simpa using hxy)
  have hx := ht.eval x
  have hy := ht.eval y
  unfold opCopy at h
  split at h
  · rename_i t t2 i off len s j off' m s' hts ex ey
    rw [ex] at hx; rw [ey] at hy
    split at h
    · rename_i e ei b b' he hb hb'
      split at h
      · rename_i hcond
        obtain ⟨hs1, rfl, rfl, hro⟩ := hcond
        obtain ⟨hu, hei⟩ := elemT_spec hT he
        obtain ⟨_, inf, hinf, hsz, _⟩ := hT.ty e ei hei
        obtain ⟨hi, hl⟩ := liveB_some hb
        obtain ⟨hj, hl'⟩ := liveB_some hb'
        obtain ⟨e1, cap1, he1, hxv, _, _, hfit1⟩ := hx
        obtain ⟨e2, cap2, he2, hyv, hlc2, _, hfit2⟩ := hy
        obtain ⟨cd, hcd, hcs1, hB, ho1, h3, h4⟩ := hh.own hi he1 hl hro
        obtain ⟨cs, fzs, hcsrc, g1, _, ⟨g3, _⟩, g4⟩ := hh.blk j b' e2 hj he2 hl'
        have hcsl : cs.toList.length = cs.size := by simp
        have hcdl : cd.toList.length = cd.size := by simp
        have hts' : c.argTypes = #[t, t2] := Array.ext' (by simpa using hts)
        -- the run
        have run : ∀ (n : Nat) (news : List Value), n = Nat.min m len → news.length = n → RCs E ((b'.cells.drop off').take n) news → off' + n ≤ b'.cells.length → off + n ≤ cd.size → news = (((cs.toList.drop e2.o).take b'.cells.length).drop off').take n →
            (execOp a.eval o).run P w = .ok (.value (goInt n)) (w.setRow e1.b (cd.toList.take off ++ news ++ cd.toList.drop (off + n)).toArray) := fun n news hn hnl hrc hf1 hf2 hnews => by
          have hsrc : ∀ k v, news[k]? = some v → w.cell? ((⟨e2.b, e2.o + off', none⟩ : Addr).add k) = some v := fun k v hk => by
            rw [hnews, List.getElem?_take] at hk
            split at hk
            · rename_i hkn
              rw [List.getElem?_drop, List.getElem?_take] at hk
              split at hk
              · rw [List.getElem?_drop] at hk
                rw [add_row, cell_of_row w e2.b _ cs _ fzs hcsrc, show e2.o + off' + k = e2.o + (off' + k) from by omega]
                simpa using hk
              · cases hk
            · cases hk
          have hr := run_copy_row (P := P) w t t2 o.type e e1.b off len cap1 ⟨e2.b, e2.o + off', none⟩ m cap2 cd b.elem news hu (by rw [hinf]; simp [hsz, hs1]) hcd (by rw [hnl, hn]) hsrc (by rw [hnl]; exact hf2) hrc.ones
          rw [ho1, Nat.zero_add] at hxv
          simp only [execOp, ho, resolve, hc, hargs, hts', invoke, builtin, Sem.run_bind, Sem.run_pure, Result.andThen_ok, List.map_toArray, List.map_cons, List.map_nil, hxv, hyv, hr]
          rw [hnl]
        have len_cs : ((cs.toList.drop e2.o).take b'.cells.length).length = b'.cells.length := by
          rw [List.length_take, List.length_drop, hcsl]; omega
        have row : ∀ (n : Nat) (bd : Body), n = Nat.min m len → off' + n ≤ b'.cells.length → off + n ≤ b.cells.length → bd.cells = splice b.cells off ((b'.cells.drop off').take n) → (∀ l, bd ≠ .mp l) → ∀ st : Bool, K (.one (.sc (.int .i64 (n : Int)) st)) (setB hp i { b with body := bd }) → Out K B w0 E ((execOp a.eval o).run P w) := fun n bd hn hf1 hf2 hbd hnm st hk => by
          have hrc : RCs E ((b'.cells.drop off').take n) ((((cs.toList.drop e2.o).take b'.cells.length).drop off').take n) := (g4.drop off').take n
          have hnl : ((((cs.toList.drop e2.o).take b'.cells.length).drop off').take n).length = n := by
            rw [List.length_take, List.length_drop, len_cs]; omega
          have hr := run n _ hn hnl hrc hf1 (by omega) rfl
          refine ⟨_, _, E, _, _, .inl hr, hk, List.prefix_refl _, ⟨rfl, rfl⟩, ?_⟩
          rw [setB_eq]
          have hlen : bd.cells.length = b.cells.length := by
            rw [hbd, splice]
            simp only [List.length_append, List.length_take, List.length_drop]
            omega
          refine hh.row hi he1 hl hro _ bd ?_ ?_ ?_ (fun _ => hlen) hnm
          · rw [List.size_toArray, List.length_append, List.length_append, hnl, List.length_take, List.length_drop, hcdl]; omega
          · rw [hlen, List.size_toArray, List.length_append, List.length_append, hnl, List.length_take, List.length_drop, hcdl]; omega
          · rw [hlen, hbd]
            have h5 := h4.splice hrc off
            rw [hnl] at h5
            have e5 : ((cd.toList.take b.cells.length).take off ++ (((cs.toList.drop e2.o).take b'.cells.length).drop off').take n ++ (cd.toList.take b.cells.length).drop (off + n)) = (cd.toList.take off ++ (((cs.toList.drop e2.o).take b'.cells.length).drop off').take n ++ cd.toList.drop (off + n)).toArray.toList.take b.cells.length := by
              have := list_key cd.toList ((((cs.toList.drop e2.o).take b'.cells.length).drop off').take n) b.cells.length off (by simpa using h3) (by rw [hnl]; exact hf2)
              rw [hnl] at this
              simpa using this
            rw [e5] at h5
            exact h5
        split at h
        · rename_i l l' hbd hbd'
          split at h
          · rename_i hfit
            have hc1 : b.cells = l := by rw [Blk.cells, hbd]; rfl
            have hc2 : b'.cells = l' := by rw [Blk.cells, hbd']; rfl
            exact row (Nat.min m len) _ rfl (by rw [hc2]; exact hfit.2) (by rw [hc1]; exact hfit.1) (by rw [hc1, hc2]; rfl) (fun l h => by cases h) true h
          · exact h.elim
        · obtain ⟨⟨hf1, hf2⟩, hk⟩ := h
          have hb1 : b.cells.length = (bodyG b.body).1 := bodyG_len _
          have hb2 : b'.cells.length = (bodyG b'.body).1 := bodyG_len _
          refine row (Nat.min m len) _ rfl (by rw [hb2]; exact hf2) (by rw [hb1]; exact hf1) ?_ (fun l h => by cases h) false hk
          show symC _ _ = _
          refine List.ext_getElem? fun k => ?_
          by_cases hk1 : k < (bodyG b.body).1
          · rw [symC_get _ _ hk1]
            unfold cpyG splice
            have hg := bodyG_get b.body hk1
            have hlT : ((b'.cells.drop off').take (Nat.min m len)).length = Nat.min m len := by
              rw [List.length_take, List.length_drop]; omega
            by_cases ho : off ≤ k
            · by_cases hk2 : k < off + Nat.min m len
              · have e1 : (Nat.ble off k && Nat.blt k (off + Nat.min m len)) = true := by
                  rw [Nat.ble_eq_true_of_le ho, blt_eq, decide_eq_true hk2]; rfl
                rw [e1, cond_true, List.getElem?_append_left (by rw [List.length_append, hlT, List.length_take]; omega), List.getElem?_append_right (by rw [List.length_take]; omega), List.length_take, show min off b.cells.length = off from by omega, List.getElem?_take, if_pos (by omega), List.getElem?_drop]
                exact (bodyG_get b'.body (by omega)).symm
              · have e1 : (Nat.ble off k && Nat.blt k (off + Nat.min m len)) = false := by
                  rw [blt_eq, decide_eq_false hk2, Bool.and_false]
                rw [e1, cond_false, List.getElem?_append_right (by rw [List.length_append, hlT, List.length_take]; omega), List.length_append, hlT, List.length_take, show min off b.cells.length = off from by omega, List.getElem?_drop, show off + Nat.min m len + (k - (off + Nat.min m len)) = k from by omega]
                exact hg.symm
            · have e1 : (Nat.ble off k && Nat.blt k (off + Nat.min m len)) = false := by
                have : Nat.ble off k = false := by
                  cases hq : Nat.ble off k with
                  | false => rfl
                  | true => exact absurd (Nat.le_of_ble_eq_true hq) ho
                rw [this, Bool.false_and]
              rw [e1, cond_false, List.getElem?_append_left (by rw [List.length_append, List.length_take]; omega), List.getElem?_append_left (by rw [List.length_take]; omega), List.getElem?_take, if_pos (by omega)]
              exact hg.symm
          · rw [List.getElem?_eq_none (by rw [symC_length]; omega), List.getElem?_eq_none]
            unfold splice
            simp only [List.length_append, List.length_take, List.length_drop]
            omega
      · exact h.elim
    · exact h.elim
  · exact h.elim

/-! ### maps -/

theorem findNow_spec {E : Env} {n : Int} : ∀ (l : List (Int × C1)) (es : List MapEntry) (i : Nat), l.length = es.length →
    (∀ (j : Nat) (p : Int × C1) (en : MapEntry), l[j]? = some p → es[j]? = some en → en.key = .int .i64 p.1 ∧ RC E p.2 en.val) →
    (keyAt n l i = none → Instr.findNow (.int .i64) (.int .i64 n) es i = some none) ∧
    ∀ j c, keyAt n l i = some (j, c) → i ≤ j ∧ ∃ en, es[j - i]? = some en ∧ l[j - i]? = some (n, c) ∧ Instr.findNow (.int .i64) (.int .i64 n) es i = some (some (j, en.val))
  | [], [], i, _, _ => ⟨fun _ => rfl, fun j c h => by cases h⟩
  | p :: l, en :: es, i, hl, h => by
    obtain ⟨hk, hv⟩ := h 0 p en rfl rfl
    obtain ⟨ih1, ih2⟩ := findNow_spec l es (i + 1) (by simpa using hl) fun j p en h1 h2 => h (j + 1) p en (by simpa using h1) (by simpa using h2)
    have hsame : Instr.sameNow (.int .i64) (.int .i64 n) en.key = some (n == p.1) := by
      rw [hk]; simp [Instr.sameNow]
    unfold keyAt Instr.findNow
    rw [hsame]
    by_cases hn : n = p.1
    · have e1 : (n == p.1) = true := by simpa using hn
      rw [e1]
      simp only [decide_eq_true hn]
      refine ⟨fun h => (by cases h), fun j c h => ?_⟩
      simp only [Option.some.injEq, Prod.mk.injEq] at h
      obtain ⟨rfl, rfl⟩ := h
      exact ⟨Nat.le_refl _, en, by simp, by simp [hn], rfl⟩
    · have e1 : (n == p.1) = false := by simpa using hn
      rw [e1]
      simp only [decide_eq_false hn]
      refine ⟨ih1, fun j c h => ?_⟩
      obtain ⟨h1, en', h2, h3, h4⟩ := ih2 j c h
      have e2 : j - i = (j - (i + 1)) + 1 := by omega
      exact ⟨by omega, en', by rw [e2]; simpa using h2, by rw [e2]; simpa using h3, h4⟩
  | [], _ :: _, _, h, _ => by simp at h
  | _ :: _, [], _, h, _ => by simp at h

theorem isIntMap_spec (hT : TabOk P T) {t : TypeId} (h : isIntMap T t = true) : ∃ k e, P.underlying t = some (.map k e) ∧ P.underlying k = some (.int .i64) := by
  unfold isIntMap at h
  split at h
  · rename_i ti hti
    obtain ⟨hu, _⟩ := hT.ty t ti hti
    split at h
    · rename_i k e hd
      rw [hd] at hu
      split at h
      · rename_i ki hki
        obtain ⟨hu2, _⟩ := hT.ty k ki hki
        split at h
        · rename_i hd2
          rw [hd2] at hu2
          exact ⟨k, e, hu, hu2⟩
        · cases h
      · cases h
    · cases h
  · cases h

theorem mapL_spec {i : Nat} {l : List (Int × C1)} (h : mapL hp i = some l) : ∃ b, hp[i]? = some b ∧ b.body = .mp l := by
  unfold mapL at h
  rw [getB_eq] at h
  split at h
  · rename_i b hb
    split at h
    · rename_i l' hl
      simp only [Option.some.injEq] at h
      subst h
      exact ⟨b, hb, hl⟩
    · cases h
  · cases h

theorem litI_spec {v : AV} {n : Int} (h : litI v = some n) {u : Value} (hv : RV E v u) : u = .int .i64 n := by
  unfold litI at h
  split at h
  · simp only [Option.some.injEq] at h
    subst h
    exact hv.1
  · cases h

theorem RH.newMap (h : RH B w0 E hp w) : RH B w0 (E ++ [EB.at w.heap.size 0 0]) (hp ++ [mapB []]) (w.alloc (.map #[] 0)) := by
  have hpre : E <+: E ++ [EB.at w.heap.size 0 0] := ⟨_, rfl⟩
  have hsz := h.size
  have old : ∀ (i : Nat) (b : Blk) (e : EB), (hp ++ [mapB []])[i]? = some b → (E ++ [EB.at w.heap.size 0 0])[i]? = some e → b.live = true → hp[i]? = some b ∧ E[i]? = some e := fun i b e hi he hl => by
    have h1 := snoc_old hi fun e => by rw [e] at hl; cases hl
    have hlt := (List.getElem?_eq_some_iff.1 h1).1
    rw [List.getElem?_append_left (by rw [h.len]; exact hlt)] at he
    exact ⟨h1, he⟩
  have hold : ∀ k, k < w.heap.size → (w.alloc (.map #[] 0)).heap[k]? = w.heap[k]? := fun k hk => Below.heap_alloc _ _ _ hk
  have cut : ∀ (i : Nat) (b : Blk) (e : EB) (l : List (Int × C1)), (hp ++ [mapB []])[i]? = some b → (E ++ [EB.at w.heap.size 0 0])[i]? = some e → b.body = .mp l → (hp[i]? = some b ∧ E[i]? = some e) ∨ (i = hp.length ∧ l = [] ∧ e.b = w.heap.size) := fun i b e l hi he hb => by
    by_cases hlt : i < hp.length
    · rw [List.getElem?_append_left hlt] at hi
      rw [List.getElem?_append_left (by rw [h.len]; exact hlt)] at he
      exact .inl ⟨hi, he⟩
    · rw [List.getElem?_append_right (by omega)] at hi
      rw [List.getElem?_append_right (by rw [h.len]; omega)] at he
      have h0 := (List.getElem?_eq_some_iff.1 hi).1
      have h1 : i - hp.length = 0 := by simp at h0; omega
      rw [h1] at hi
      rw [h.len, h1] at he
      simp only [List.getElem?_cons_zero, Option.some.injEq] at hi he
      subst hi; subst he
      simp only [mapB, Body.mp.injEq] at hb
      exact .inr ⟨by omega, hb.symm, rfl⟩
  refine ⟨h.below.alloc hsz _, h.base, h.laid, by simp [h.len], fun i b e hi he hl => ?_, fun i j bi bj ei ej hij hi hj hei hej hli hlj hro => ?_,
    h.frz.keep (.at E _ _ _) (.of hpre) (fun b c t z hc _ => by rw [hold _ (Array.getElem?_eq_some_iff.1 hc).1]; exact hc) fun i b e hi he hl hro => ?_, fun i b e l hi he hb => ?_, fun i j bi bj ei ej l m hij h1 h2 h3 h4 h5 h6 => ?_⟩
  · obtain ⟨h1, h2⟩ := old i b e hi he hl
    obtain ⟨c, fz, a1, a2, a3, a4, a5⟩ := h.blk i b e h1 h2 hl
    exact ⟨c, fz, by rw [hold _ (Array.getElem?_eq_some_iff.1 a1).1]; exact a1, a2, a3, a4, a5.mono hpre⟩
  · obtain ⟨h1, h2⟩ := old i bi ei hi hei hli
    obtain ⟨h3, h4⟩ := old j bj ej hj hej hlj
    exact h.inj i j bi bj ei ej hij h1 h3 h2 h4 hli hlj hro
  · obtain ⟨h1, h2⟩ := old i b e hi he hl
    exact .inl ⟨i, b, e, h1, h2, hl, hro, rfl⟩
  · rcases cut i b e l hi he hb with ⟨h1, h2⟩ | ⟨h1, rfl, h3⟩
    · obtain ⟨k1, es, cl, k2, k3, k4⟩ := h.maps.1 i b e l h1 h2 hb
      exact ⟨k1, es, cl, by rw [hold _ (Array.getElem?_eq_some_iff.1 k2).1]; exact k2, k3, fun j p en a1 a2 => ⟨(k4 j p en a1 a2).1, (k4 j p en a1 a2).2.mono hpre⟩⟩
    · exact ⟨by omega, #[], 0, by rw [h3]; exact heap_alloc_new w _, rfl, fun j p en a1 _ => by simp at a1⟩
  · have lt : ∀ (i : Nat) (b : Blk) (e : EB) (l : List (Int × C1)), hp[i]? = some b → E[i]? = some e → b.body = .mp l → e.b < w.heap.size := fun i b e l hi he hb => by
      obtain ⟨_, es, cl, k2, _⟩ := h.maps.1 i b e l hi he hb
      exact (Array.getElem?_eq_some_iff.1 k2).1
    rcases cut i bi ei l h1 h3 h5 with ⟨a1, a2⟩ | ⟨a1, _, a3⟩ <;> rcases cut j bj ej m h2 h4 h6 with ⟨b1, b2⟩ | ⟨b1, _, b3⟩
    · exact h.maps.2 i j bi bj ei ej l m hij a1 b1 a2 b2 h5 h6
    · have := lt i bi ei l a1 a2 h5; omega
    · have := lt j bj ej m b1 b2 h6; omega
    · omega

theorem RH.setMap (h : RH B w0 E hp w) {i : Nat} {b : Blk} {e : EB} {l l' : List (Int × C1)} (hi : hp[i]? = some b) (he : E[i]? = some e) (hb : b.body = .mp l) {es' : Array MapEntry} {cl' : Nat} (hR : MapR E l' es') :
    RH B w0 E (hp.set i (mapB l')) { w with heap := w.heap.setIfInBounds e.b (.map es' cl') } := by
  have hlt : i < hp.length := (List.getElem?_eq_some_iff.1 hi).1
  obtain ⟨hB, es, cl, hm, _⟩ := h.maps.1 i b e l hi he hb
  have hsz := (Array.getElem?_eq_some_iff.1 hm).1
  have hset : ∀ (k : Nat) (x : Blk), (hp.set i (mapB l'))[k]? = some x → x.live = true → hp[k]? = some x := fun k x hx hl => by
    by_cases hk : i = k
    · subst hk
      rw [List.getElem?_set_self hlt] at hx
      simp only [Option.some.injEq] at hx
      subst hx
      cases hl
    · rw [List.getElem?_set_ne hk] at hx
      exact hx
  have other : ∀ k, k ≠ e.b → ({ w with heap := w.heap.setIfInBounds e.b (.map es' cl') } : World).heap[k]? = w.heap[k]? := fun k hk => by
    simp only [Array.getElem?_setIfInBounds]
    rw [if_neg (Ne.symm hk)]
  have self : ({ w with heap := w.heap.setIfInBounds e.b (.map es' cl') } : World).heap[e.b]? = some (.map es' cl') := by
    simp only [Array.getElem?_setIfInBounds, if_true, if_pos hsz]
  have cells : ∀ (k : Nat) c t z, w.heap[k]? = some (.cells c t z) → ({ w with heap := w.heap.setIfInBounds e.b (.map es' cl') } : World).heap[k]? = some (.cells c t z) := fun k c t z hc => by
    rw [other k fun e1 => by rw [e1, hm] at hc; cases hc]
    exact hc
  have hbelow : Below B w { w with heap := w.heap.setIfInBounds e.b (.map es' cl') } := ⟨rfl, rfl, rfl, by simp, fun k hk => other k (by omega)⟩
  refine ⟨h.below.trans hbelow, h.base, h.laid, by simp [h.len], fun k x ek hk hek hl => ?_, fun i' j' bi bj ei ej hij hi' hj' hei hej hli hlj hro => h.inj i' j' bi bj ei ej hij (hset i' bi hi' hli) (hset j' bj hj' hlj) hei hej hli hlj hro,
    h.frz.keep (.refl E) (.refl E) (fun b c t z hc _ => cells b c t z hc) fun k x ek hk hek hlk hrk => .inl ⟨k, x, ek, hset k x hk hlk, hek, hlk, hrk, rfl⟩, fun k x ek lk hk hek hx => ?_, fun i' j' bi bj ei ej l1 m1 hij h1 h2 h3 h4 h5 h6 => ?_⟩
  · obtain ⟨c, fz, a1, r⟩ := h.blk k x ek (hset k x hk hl) hek hl
    exact ⟨c, fz, cells _ _ _ _ a1, r⟩
  · by_cases hik : i = k
    · subst hik
      rw [List.getElem?_set_self hlt] at hk
      simp only [Option.some.injEq] at hk
      subst hk
      rw [he] at hek
      obtain rfl := Option.some.inj hek
      simp only [mapB, Body.mp.injEq] at hx
      subst hx
      exact ⟨hB, es', cl', self, hR⟩
    · rw [List.getElem?_set_ne hik] at hk
      obtain ⟨k1, es1, cl1, k2, k3⟩ := h.maps.1 k x ek lk hk hek hx
      exact ⟨k1, es1, cl1, by rw [other _ (h.maps.2 k i x b ek e lk l (Ne.symm hik) hk hi hek he hx hb)]; exact k2, k3⟩
  · have from_ : ∀ (k : Nat) (x : Blk) (lk : List (Int × C1)), (hp.set i (mapB l'))[k]? = some x → x.body = .mp lk → ∃ y ly, hp[k]? = some y ∧ y.body = .mp ly := fun k x lk hx hxb => by
      by_cases hk : i = k
      · subst hk; exact ⟨b, l, hi, hb⟩
      · rw [List.getElem?_set_ne hk] at hx
        exact ⟨x, lk, hx, hxb⟩
    obtain ⟨y1, ly1, g1, g2⟩ := from_ i' bi l1 h1 h5
    obtain ⟨y2, ly2, g3, g4⟩ := from_ j' bj m1 h2 h6
    exact h.maps.2 i' j' y1 y2 ei ej ly1 ly2 hij g1 g3 h3 h4 g2 g4

theorem makeMap_sound (hh : RH B w0 E hp w) (o : Oper) {t : TypeId} {r : Option Operand} (ho : o.op = .makeMap t r) (h : opMakeMap r hp K) : Out K B w0 E ((execOp a.eval o).run P w) := by
  unfold opMakeMap at h
  split at h
  · refine ⟨_, _, E ++ [EB.at w.heap.size 0 0], _, w.alloc (.map #[] 0), .inl ?_, h, ⟨_, rfl⟩, ⟨EB.at w.heap.size 0 0, by rw [← hh.len]; simp, rfl⟩, hh.newMap⟩
    simp only [execOp, ho, Instr.makeMap, Option.map_none, newObj, Sem.run_bind, Sem.run, Result.andThen_ok, Sem.run_pure]
    rfl
  · exact h.elim

theorem sameBits_int (n : Int) (d : Nat) : Instr.sameBits d (.int .i64 n) (.int .i64 n) = true := by
  cases d <;> simp [Instr.sameBits]

theorem run_checkKey {k : TypeId} (hu : P.underlying k = some (.int .i64)) (b : Bool) (n : Int) (w : World) : (Instr.checkKey b 10000 k (.int .i64 n)).run P w = .ok () w := by
  rw [show (10000 : Nat) = 9999 + 1 from rfl, Instr.checkKey.eq_2]
  simp only [Sem.run_bind, run_underlying hu, Result.andThen_ok]
  rfl

theorem run_findKey {k : TypeId} (hu : P.underlying k = some (.int .i64)) {n : Int} {es : List MapEntry} {r : Option (Nat × Value)} (h : Instr.findNow (.int .i64) (.int .i64 n) es 0 = some r) (w : World) : (Instr.findKey k (.int .i64 n) es).run P w = .ok r w := by
  simp only [Instr.findKey, Sem.run_bind, run_underlying hu, Result.andThen_ok, h, Sem.run_pure]

theorem mapPut_sound (hT : TabOk P T) (hh : RH B w0 E hp w) (ht : RT E tm a.tmps) (o : Oper) {t : TypeId} {m k x : Operand} (ho : o.op = .mapUpdate t m k x ∨ o.op = .insert t m k x) (h : opMapPut T t m k x tm hp K) : Out K B w0 E ((execOp a.eval o).run P w) := by
  have hex : execOp a.eval o = (do Instr.mapUpdate t (a.eval m) (a.eval k) (a.eval x); pure .skip) := by
    rcases ho with ho | ho <;> simp only [execOp, ho]
  rw [hex]
  unfold opMapPut at h
  have hm := ht.eval m
  have hk := ht.eval k
  have hx := ht.eval x
  split at h
  · rename_i i n c em ek ex
    rw [em] at hm
    have hk := litI_spec ek hk
    rw [ex] at hx
    obtain ⟨e, he, hm⟩ := hm
    split at h
    · rename_i l hmp hl
      obtain ⟨kt, et, hu, huk⟩ := isIntMap_spec hT hmp
      obtain ⟨b, hi, hb⟩ := mapL_spec hl
      obtain ⟨hB, es, cl, hobj, hlen, hR⟩ := hh.maps.1 i b e l hi he hb
      have hR' : ∀ (j : Nat) (p : Int × C1) (en : MapEntry), l[j]? = some p → es.toList[j]? = some en → en.key = .int .i64 p.1 ∧ RC E p.2 en.val := fun j p en h1 h2 => hR j p en h1 (by simpa using h2)
      obtain ⟨f1, f2⟩ := findNow_spec (n := n) l es.toList 0 (by simpa using hlen) hR'
      have hg : (getObj e.b).run P w = .ok (.map es cl) w := by simp [getObj, Sem.run, hobj]
      have hs : ∀ ob, (setObj e.b ob).run P w = .ok () { w with heap := w.heap.setIfInBounds e.b ob } := fun ob => by simp [setObj, Sem.run, hobj]
      split at h
      · rename_i j c0 hat
        obtain ⟨_, en, h2, h3, h4⟩ := f2 j c0 hat
        rw [Nat.sub_zero] at h2 h3
        have hkey : en.key = .int .i64 n := (hR' j _ en h3 h2).1
        have h2' : es[j]? = some en := by simpa using h2
        refine ⟨_, _, E, _, { w with heap := w.heap.setIfInBounds e.b (.map (es.modify j fun e => { e with key := .int .i64 n, val := a.eval x }) cl) }, .inr ⟨?_, rfl⟩, h, List.prefix_refl _, rfl, ?_⟩
        · simp only [Instr.mapUpdate, hm, hk, Sem.run_bind, run_underlying hu, Result.andThen_ok, hg, run_checkKey huk, run_findKey huk h4, h2', Option.map_some, Option.getD_some, hkey, Instr.keyThatStays, sameBits_int, if_true, Sem.run_pure, hs]
        · rw [setB_eq]
          refine hh.setMap hi he hb ⟨by simp [hlen], fun j' p en' g1 g2 => ?_⟩
          rw [Array.getElem?_modify] at g2
          by_cases hj : j = j'
          · subst hj
            rw [if_pos rfl, h2'] at g2
            simp only [Option.map_some, Option.some.injEq] at g2
            subst g2
            have hjl : j < l.length := (List.getElem?_eq_some_iff.1 h3).1
            rw [List.getElem?_set_self hjl] at g1
            simp only [Option.some.injEq] at g1
            subst g1
            exact ⟨rfl, hx⟩
          · rw [if_neg hj] at g2
            rw [List.getElem?_set_ne hj] at g1
            exact hR j' p en' g1 g2
      · rename_i hat
        have h4 := f1 hat
        refine ⟨_, _, E, _, { w with heap := w.heap.setIfInBounds e.b (.map (es.push { key := .int .i64 n, val := a.eval x, born := cl }) (cl + 1)) }, .inr ⟨?_, rfl⟩, h, List.prefix_refl _, rfl, ?_⟩
        · simp only [Instr.mapUpdate, hm, hk, Sem.run_bind, run_underlying hu, Result.andThen_ok, hg, run_checkKey huk, run_findKey huk h4, Sem.run_pure, hs]
        · rw [setB_eq]
          refine hh.setMap hi he hb ⟨by simp [hlen], fun j' p en' g1 g2 => ?_⟩
          by_cases hj : j' < l.length
          · rw [List.getElem?_append_left hj] at g1
            rw [Array.getElem?_push, if_neg (by omega)] at g2
            exact hR j' p en' g1 g2
          · rw [List.getElem?_append_right (by omega)] at g1
            have h0 := (List.getElem?_eq_some_iff.1 g1).1
            have h1 : j' - l.length = 0 := by simp at h0; omega
            rw [h1] at g1
            simp only [List.getElem?_cons_zero, Option.some.injEq] at g1
            rw [Array.getElem?_push, if_pos (by omega)] at g2
            simp only [Option.some.injEq] at g2
            subst g1; subst g2
            exact ⟨rfl, hx⟩
    · exact h.elim
  · exact h.elim

theorem mapGet_sound (hT : TabOk P T) (hh : RH B w0 E hp w) (ht : RT E tm a.tmps) (o : Oper) {t : TypeId} {m k : Operand} {ok : Bool} (ho : o.op = .lookup t m k ok) (h : opMapGet T t m k ok tm hp K) : Out K B w0 E ((execOp a.eval o).run P w) := by
  unfold opMapGet at h
  have hm := ht.eval m
  have hk := ht.eval k
  split at h
  · rename_i i n em ek
    rw [em] at hm
    have hk := litI_spec ek hk
    obtain ⟨e, he, hm⟩ := hm
    split at h
    · rename_i l hmp hl
      rw [Bool.and_eq_true, Bool.not_eq_true'] at hmp
      obtain ⟨hmp, rfl⟩ := hmp
      obtain ⟨kt, et, hu, huk⟩ := isIntMap_spec hT hmp
      obtain ⟨b, hi, hb⟩ := mapL_spec hl
      obtain ⟨hB, es, cl, hobj, hlen, hR⟩ := hh.maps.1 i b e l hi he hb
      have hR' : ∀ (j : Nat) (p : Int × C1) (en : MapEntry), l[j]? = some p → es.toList[j]? = some en → en.key = .int .i64 p.1 ∧ RC E p.2 en.val := fun j p en h1 h2 => hR j p en h1 (by simpa using h2)
      obtain ⟨f1, f2⟩ := findNow_spec (n := n) l es.toList 0 (by simpa using hlen) hR'
      have hg : (getObj e.b).run P w = .ok (.map es cl) w := by simp [getObj, Sem.run, hobj]
      split at h
      · rename_i j c0 hat
        obtain ⟨_, en, h2, h3, h4⟩ := f2 j c0 hat
        rw [Nat.sub_zero] at h2 h3
        refine Out.same hh h (hR' j _ en h3 h2).2 |> fun hout => ?_
        have : (execOp a.eval o).run P w = .ok (.value en.val) w := by
          simp only [execOp, ho, Instr.lookup, hm, hk, Sem.run_bind, run_underlying hu, Result.andThen_ok, hg, run_checkKey huk, run_findKey huk h4, Sem.run_pure, Bool.false_eq_true, if_false]
        rw [this]
        exact hout
      · exact h.elim
    · exact h.elim
  · exact h.elim

/-- Every operation of the evaluator, calls of Go functions apart. -/
theorem opK0_sound (hT : TabOk P T) (hh : RH B w0 E hp w) (ht : RT E tm a.tmps) (o : Oper) (hc : callee? o = none) (h : opK0 P T o tm hp K) : Out K B w0 E ((execOp a.eval o).run P w) := by
  cases hq : quietOp o with
  | true => exact (quiet_sound hT hh ht o hq hc h).out hh
  | false =>
    cases ho : o.op with
    | alloc e => exact alloc_sound hT hh o ho h
    | box e x => exact box_sound hh ht o ho h
    | store t x y => exact store_sound hT hh ht o ho h
    | buildSlice t n ps => exact buildSlice_sound hT hh ht o ho h
    | makeSlice t l c => exact makeSlice_sound hT hh ht o ho (by simpa only [opK0, ho] using h)
    | makeMap t r => exact makeMap_sound hh o ho (by simpa only [opK0, ho] using h)
    | mapUpdate t m k x => exact mapPut_sound hT hh ht o (.inl ho) (by simpa only [opK0, ho] using h)
    | insert t m k x => exact mapPut_sound hT hh ht o (.inr ho) (by simpa only [opK0, ho] using h)
    | lookup t m k ok => exact mapGet_sound hT hh ht o ho (by simpa only [opK0, ho] using h)
    | call c =>
      simp only [opK0, ho, opPick, opExtract, opAlloc, opBox, opLoad, opStore, opNil, opFAddr, opField, opIAddr, opIndex, opBuild, opBSlice, opSlice, opMkFunc, opMakeSlice, opCall, opConv] at h
      split at h
      · rename_i hcal
        split at h
        · rename_i x y hxy; exact appendCall_sound hT hh ht o ho hcal hxy h
        · exact h.elim
      · rename_i hcal; simp only [quietOp, ho, hcal] at hq; cases hq
      · rename_i hcal
        split at h
        · rename_i x y hxy; exact copy_sound hT hh ht o ho hcal hxy h
        · exact h.elim
      · rename_i hcal; simp only [quietOp, ho, hcal] at hq; cases hq
      · rename_i hcal; simp only [quietOp, ho, hcal] at hq; cases hq
      · rename_i b _ _ _ _ _ hcal
        split at h
        all_goals first | exact h.elim | (simp only [quietOp, ho, hcal] at hq; cases hq)
      · exact h.elim
    | move x => simp only [quietOp, ho] at hq; cases hq
    | assign x => simp only [quietOp, ho] at hq; cases hq
    | pick c x y => simp only [quietOp, ho] at hq; cases hq
    | extract x i => simp only [quietOp, ho] at hq; cases hq
    | load t x => simp only [quietOp, ho] at hq; cases hq
    | nilCheck x => simp only [quietOp, ho] at hq; cases hq
    | fieldAddr s x f => simp only [quietOp, ho] at hq; cases hq
    | field s x f => simp only [quietOp, ho] at hq; cases hq
    | indexAddr t x i => simp only [quietOp, ho] at hq; cases hq
    | index t x i => simp only [quietOp, ho] at hq; cases hq
    | build t ps => simp only [quietOp, ho] at hq; cases hq
    | convert s d x => simp only [quietOp, ho] at hq; cases hq
    | binOp op t x y u => simp only [quietOp, ho] at hq; cases hq
    | unOp op t x => simp only [quietOp, ho] at hq; cases hq
    | slice t x lo hi mx => simp only [quietOp, ho] at hq; cases hq
    | makeFunc f first caps => simp only [quietOp, ho] at hq; cases hq
    | makeInterface t x => simp only [quietOp, ho] at hq; cases hq
    | _ => simp only [opK0, ho, opPick, opExtract, opAlloc, opBox, opLoad, opStore, opNil, opFAddr, opField, opIAddr, opIndex, opBuild, opBSlice, opSlice, opMkFunc, opMakeSlice, opCall, opConv] at h

end ops
end Sm
