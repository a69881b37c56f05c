/- Rules of the separation-logic layer: loads, stores, new blocks, fields, indices, slices, strings. -/
import Derived.Test.YtbigjpjmdkgjmaaDoorSlMem
import Derived.Lib.Builder
import Derived.Laws.Externs
namespace Go.SL
open Go

theorem addr_add (b off i : Nat) : (⟨b, off, none⟩ : Addr).add i = ⟨b, off + i, none⟩ := by
  unfold Addr.add
  by_cases h : i = 0
  · subst h; rfl
  · rw [if_neg h]
theorem cell_at {w : World} {b off : Nat} {arr : Array Value} {t : TypeId} {fz : Nat × Nat} (h : w.heap[b]? = some (.cells arr t fz)) : w.cell? ⟨b, off, none⟩ = arr[off]? := by
  simp [World.cell?, h]
theorem cell_add {w : World} {b off : Nat} {arr : Array Value} {t : TypeId} {fz : Nat × Nat} (h : w.heap[b]? = some (.cells arr t fz)) (i : Nat) : w.cell? ((⟨b, off, none⟩ : Addr).add i) = arr[off + i]? := by
  rw [addr_add]; exact cell_at h
theorem frozen_add {w : World} {b off : Nat} {arr : Array Value} {t : TypeId} {fz : Nat × Nat} (h : w.heap[b]? = some (.cells arr t fz)) (i : Nat) : w.frozen? ((⟨b, off, none⟩ : Addr).add i) = (fz.1 ≤ off + i && off + i < fz.2) := by
  rw [addr_add]
  obtain ⟨lo, hi⟩ := fz
  simp [World.frozen?, h]
theorem block_add (a : Addr) (i : Nat) : (a.add i).block = a.block := by unfold Addr.add; split <;> rfl
theorem run_loadFrom {P : Program} {w : World} {a : Addr} : ∀ (cs : List Value) (i : Nat) (acc : Array Value), (∀ j v, cs[j]? = some v → w.cell? (a.add (i + j)) = some v) →
    (loadCellsFrom a i cs.length acc).run P w = .ok (acc ++ cs.toArray) w := by
  intro cs
  induction cs with
  | nil => intro i acc _; simp [loadCellsFrom]
  | cons v cs ih =>
    intro i acc h
    have h0 := h 0 v (by simp)
    simp only [List.length_cons, loadCellsFrom, Sem.run_bind, run_load]
    rw [Nat.add_zero] at h0
    rw [h0]
    simp only [Result.andThen]
    rw [ih (i + 1) (acc.push v) (fun j u hj => by
      have := h (j + 1) u (by simpa using hj)
      rw [show i + 1 + j = i + (j + 1) by omega]; exact this)]
    simp
theorem run_loadCells {P : Program} {w : World} {a : Addr} {cs : List Value} (h : ∀ j v, cs[j]? = some v → w.cell? (a.add j) = some v) : (loadCells a cs.length).run P w = .ok cs.toArray w := by
  have := run_loadFrom (P := P) cs 0 #[] (a := a) (w := w) (fun j v hj => by rw [Nat.zero_add]; exact h j v hj)
  simpa [loadCells] using this

def setAt (arr : Array Value) (off : Nat) : List Value → Array Value
  | [] => arr
  | v :: vs => setAt (arr.setIfInBounds off v) (off + 1) vs
theorem setAt_size : ∀ (vs : List Value) (arr : Array Value) (off : Nat), (setAt arr off vs).size = arr.size := by
  intro vs
  induction vs with
  | nil => intro arr off; rfl
  | cons v vs ih => intro arr off; simp [setAt, ih]
theorem setAt_get : ∀ (vs : List Value) (arr : Array Value) (off i : Nat), off + vs.length ≤ arr.size → (setAt arr off vs)[i]? = if off ≤ i ∧ i < off + vs.length then vs[i - off]? else arr[i]? := by
  intro vs
  induction vs with
  | nil => intro arr off i _; simp only [setAt, List.length_nil]; rw [if_neg (by omega)]
  | cons v vs ih =>
    intro arr off i h
    simp only [List.length_cons] at h
    simp only [setAt]
    rw [ih _ _ _ (by simp; omega), Array.getElem?_setIfInBounds]
    simp only [List.length_cons]
    by_cases h1 : off + 1 ≤ i ∧ i < off + 1 + vs.length
    · rw [if_pos h1, if_pos (by omega)]
      obtain ⟨j, rfl⟩ : ∃ j, i = off + 1 + j := ⟨i - off - 1, by omega⟩
      rw [show off + 1 + j - (off + 1) = j by omega, show off + 1 + j - off = j + 1 by omega]
      simp
    · rw [if_neg h1]
      by_cases h2 : off = i
      · subst h2
        rw [if_pos rfl, if_pos (by omega), if_pos (by omega)]
        simp
      · rw [if_neg h2, if_neg (by omega)]

structure Wrote (w w' : World) (b : Nat) (arr : Array Value) (t : TypeId) (fz : Nat × Nat) : Prop where
  os : w'.os = w.os
  tape : w'.tape = w.tape
  output : w'.output = w.output
  size : w'.heap.size = w.heap.size
  here : w'.heap[b]? = some (.cells arr t fz)
  keep : ∀ k, k ≠ b → w'.heap[k]? = w.heap[k]?
theorem Wrote.turned {w w' : World} {b : Nat} {arr : Array Value} {t : TypeId} {fz : Nat × Nat} {o : Obj} (h : Wrote w w' b arr t fz) : Turned w w' [(b, o)] [(b, .cells arr t fz)] :=
  ⟨h.os, h.tape, h.output, by rw [h.size]; exact Nat.le_refl _, fun k _ hk => h.keep k (by simpa using hk), by intro p hp; simp only [List.mem_singleton] at hp; subst hp; exact h.here,
   by intro k hk; exact .inl hk, by simp⟩

theorem run_storeCells {P : Program} : ∀ (vs : List Value) (w : World) (b off i : Nat) (arr : Array Value) (t : TypeId) (fz : Nat × Nat), w.heap[b]? = some (.cells arr t fz) → off + i + vs.length ≤ arr.size →
    (∀ j, j < arr.size → (fz.1 ≤ j && j < fz.2) = false) → (∀ v ∈ vs, v.oneCell' = true) →
    ∃ w', (storeCells ⟨b, off, none⟩ vs i).run P w = .ok () w' ∧ Wrote w w' b (setAt arr (off + i) vs) t fz := by
  intro vs
  induction vs with
  | nil =>
    intro w b off i arr t fz h _ _ _
    exact ⟨w, rfl, rfl, rfl, rfl, rfl, h, fun _ _ => rfl⟩
  | cons v vs ih =>
    intro w b off i arr t fz h hl hf hv
    simp only [List.length_cons] at hl
    have hw : (w.setCell ((⟨b, off, none⟩ : Addr).add i) v).heap[b]? = some (.cells (arr.setIfInBounds (off + i) v) t fz) := by
      rw [addr_add]
      simp [World.setCell, Array.getElem?_modify, h]
    obtain ⟨w', hrun, hw'⟩ := ih (w.setCell ((⟨b, off, none⟩ : Addr).add i) v) b off (i + 1) _ t fz hw (by simp; omega) (by simpa using hf) (fun u hu => hv u (List.mem_cons_of_mem _ hu))
    refine ⟨w', ?_, ?_⟩
    · simp only [storeCells, Sem.run_bind]
      rw [run_store _ _ _ _ _ (hv v (List.mem_cons_self ..)), cell_add h, frozen_add h, hf _ (by omega)]
      rw [Array.getElem?_eq_getElem (by omega : off + i < arr.size)]
      simp only [Bool.false_eq_true, if_false, Result.andThen]
      exact hrun
    · refine ⟨hw'.os, hw'.tape, hw'.output, ?_, ?_, ?_⟩
      · rw [hw'.size]; simp [World.setCell]
      · simp only [setAt]; rw [show off + i + 1 = off + (i + 1) by omega]; exact hw'.here
      · intro k hk
        rw [hw'.keep k hk]
        simp only [World.setCell, Array.getElem?_modify, block_add]
        rw [if_neg (fun e => hk e.symm)]

inductive At : Own → Bun → Prop
  | here {blk : Bun} {r : Own} : At (blk :: r) blk
  | there {x blk : Bun} {r : Own} (h : At r blk) : At (x :: r) blk
theorem At.mem {own : Own} {blk : Bun} (h : At own blk) : ∀ p ∈ blk, p ∈ own.flatten := by
  induction h with
  | here => intro p hp; simp [hp]
  | there _ ih => intro p hp; simp only [List.flatten_cons, List.mem_append]; exact .inr (ih p hp)
theorem BUpd.at {o o' : Own} {x y : Bun} (h : BUpd o x y o') : At o x := by
  induction h with
  | here => exact .here
  | there _ ih => exact .there ih
/-- The block, whole, of a box or struct of one's own. -/
abbrev Box (own : Own) (b : Nat) (arr : Array Value) (t : TypeId) : Prop := At own [(b, .cells arr t (0, 0))]

section
variable {P : Program} {E : Env} {n : Nat} {ds : List Deferred} {m : Imm} {own own' : Own} {ρ : Nat → Value} {ks : List Kt} {ops : Array Oper} {rest : List Oper}
variable {d : Nat} {ty : TypeId} {pos : String} {af : Array Edge} {x y : Operand} {t tz : TypeId}

theorem WL.alloc {agg : Bool} {k bytes : Nat} {z : Value} [hT : Ty P t agg k bytes z] (hd : Nat.blt d n = true)
    (h : ∀ b, WL P E n ds m ([(b, .cells z.cells t (0, 0))] :: own) (upd ρ d (.pointer (some ⟨b, 0, none⟩))) ops rest ks) :
    WL P E n ds m own ρ ops (⟨some d, .alloc t, ty, pos, af, none⟩ :: rest) ks := by
  refine WL.step hd (by simp) fun w hs => ⟨_, _, m, _, ?_, hs.push (.cells z.cells t (0, 0)), h w.heap.size⟩
  simp [execOp, Instr.alloc, Sem.run_bind, hT.zero, Result.andThen, newVar, newRow, pushed]
theorem WL.box {v : Value} (hd : Nat.blt d n = true) (hx : ev ρ x = v) (h : ∀ b, WL P E n ds m ([(b, .cells v.cells t (0, 0))] :: own) (upd ρ d (.pointer (some ⟨b, 0, none⟩))) ops rest ks) :
    WL P E n ds m own ρ ops (⟨some d, .box t x, ty, pos, af, none⟩ :: rest) ks := by
  refine WL.step hd (by simp) fun w hs => ⟨_, _, m, _, ?_, hs.push (.cells v.cells t (0, 0)), h w.heap.size⟩
  simp [execOp, Instr.box, Result.andThen, newVar, newRow, pushed, hx]

theorem WL.load1 {k bytes : Nat} {z p v : Value} {tl : List Value} [hT : Ty P t false k bytes z] (hd : Nat.blt d n = true) (hx : ev ρ x = p) (hp : PtE (Rd m own) p (v :: tl))
    (h : WL P E n ds m own (upd ρ d v) ops rest ks) : WL P E n ds m own ρ ops (⟨some d, .load t x, ty, pos, af, none⟩ :: rest) ks := by
  refine WL.step hd (by simp) fun w hs => ⟨v, w, m, own, ?_, hs, h⟩
  obtain ⟨b, off, rfl, arr, t', fz, hb, hc⟩ := hp
  have hb' := hs.rd hb
  have h0 := hc 0 v (by simp)
  rw [Nat.add_zero] at h0
  simp [execOp, Instr.loadAt, Instr.sureAddr, hx, loadVar, Sem.run_bind, hT.isAgg, Result.andThen, cell_at hb', h0]
theorem WL.loadA {k bytes : Nat} {z p : Value} {cs : List Value} [hT : Ty P t true k bytes z] (hd : Nat.blt d n = true) (hx : ev ρ x = p) (hp : PtE (Rd m own) p cs) (hk : cs.length = k)
    (h : WL P E n ds m own (upd ρ d (.agg cs.toArray)) ops rest ks) : WL P E n ds m own ρ ops (⟨some d, .load t x, ty, pos, af, none⟩ :: rest) ks := by
  refine WL.step hd (by simp) fun w hs => ⟨_, w, m, own, ?_, hs, h⟩
  obtain ⟨b, off, rfl, arr, t', fz, hb, hc⟩ := hp
  have hb' := hs.rd hb
  have hrun := run_loadCells (P := P) (w := w) (a := ⟨b, off, none⟩) (cs := cs) (fun j v hj => by rw [cell_add hb']; exact hc j v hj)
  subst hk
  simp [execOp, Instr.loadAt, Instr.sureAddr, hx, loadVar, Sem.run_bind, hT.isAgg, hT.size, Result.andThen, hrun]
/-- Out of a box of one's own. -/
theorem WL.load1O {k bytes : Nat} {z v : Value} {b o : Nat} {arr : Array Value} {tb : TypeId} [hT : Ty P t false k bytes z] (hd : Nat.blt d n = true) (hx : ev ρ x = .pointer (some ⟨b, o, none⟩)) (hb : Box own b arr tb) (hv : arr[o]? = some v)
    (h : WL P E n ds m own (upd ρ d v) ops rest ks) : WL P E n ds m own ρ ops (⟨some d, .load t x, ty, pos, af, none⟩ :: rest) ks :=
  WL.load1 (tl := []) hd hx ⟨b, o, rfl, arr, tb, (0, 0), .inr (hb.mem _ (by simp)), fun i u hi => by
    cases i with
    | zero => simp at hi; subst hi; exact hv
    | succ i => simp at hi⟩ h
theorem WL.loadAO {k bytes : Nat} {z : Value} {b : Nat} {arr : Array Value} {tb : TypeId} [hT : Ty P t true k bytes z] (hd : Nat.blt d n = true) (hx : ev ρ x = .pointer (some ⟨b, 0, none⟩)) (hb : Box own b arr tb) (hk : arr.size = k)
    (h : WL P E n ds m own (upd ρ d (.agg arr)) ops rest ks) : WL P E n ds m own ρ ops (⟨some d, .load t x, ty, pos, af, none⟩ :: rest) ks :=
  WL.loadA (cs := arr.toList) hd hx ⟨b, 0, rfl, arr, tb, (0, 0), .inr (hb.mem _ (by simp)), fun i u hi => by simpa using hi⟩ (by simpa using hk) (by simpa using h)

theorem run_storeVar {w : World} {b off k bytes : Nat} {agg : Bool} {arr : Array Value} {tb : TypeId} {fz : Nat × Nat} {z v : Value} [hT : Ty P t agg k bytes z] (hb : w.heap[b]? = some (.cells arr tb fz)) (hk : v.cells.size = k) (ho : off + k ≤ arr.size)
    (hf : ∀ j, j < arr.size → (fz.1 ≤ j && j < fz.2) = false) (h1 : ∀ c ∈ v.cells.toList, c.oneCell' = true) :
    ∃ w', (storeVar t ⟨b, off, none⟩ v).run P w = .ok () w' ∧ Wrote w w' b (setAt arr off v.cells.toList) tb fz := by
  obtain ⟨w', h2, h3⟩ := run_storeCells (P := P) v.cells.toList w b off 0 arr tb fz hb (by simp; omega) hf h1
  refine ⟨w', ?_, by simpa using h3⟩
  simp only [storeVar, Sem.run_bind, hT.size, Result.andThen]
  rw [Sem.run_ite, if_neg (by simpa using hk)]
  exact h2
/-- One cell of a box of one's own is written. -/
theorem WL.store1O {bytes : Nat} {z v : Value} {b o : Nat} {arr : Array Value} {tb : TypeId} [hT : Ty P t false 1 bytes z] (hx : ev ρ x = .pointer (some ⟨b, o, none⟩)) (hy : ev ρ y = v) (h1 : v.oneCell' = true)
    (hb : BUpd own [(b, .cells arr tb (0, 0))] [(b, .cells (arr.setIfInBounds o v) tb (0, 0))] own') (ho : Nat.blt o arr.size = true) (h : WL P E n ds m own' ρ ops rest ks) :
    WL P E n ds m own ρ ops (⟨none, .store t x y, ty, pos, af, none⟩ :: rest) ks := by
  refine WL.stepNone (by simp) fun w hs => ?_
  have hb' := hs.inv.mine (b, .cells arr tb (0, 0)) (hb.at.mem _ (by simp))
  have hc : v.cells = #[v] := by cases v <;> first | rfl | (simp [Value.oneCell'] at h1)
  obtain ⟨w', h2, h3⟩ := run_storeVar (P := P) (t := t) (v := v) (off := o) hb' (by rw [hc]; rfl) (by simp only [Nat.blt_eq] at ho; omega) (by intro j _; simp) (by rw [hc]; simpa using h1)
  rw [hc] at h3
  refine ⟨w', m, own', .inl ?_, hs.put hb h3.turned, h⟩
  simp [execOp, Instr.storeAt, Instr.sureAddr, hx, hy, Result.andThen, h2]
/-- A box of one's own is written whole. -/
theorem WL.storeAO {k bytes : Nat} {z : Value} {b : Nat} {arr cs : Array Value} {tb : TypeId} {agg : Bool} [hT : Ty P t agg k bytes z] (hx : ev ρ x = .pointer (some ⟨b, 0, none⟩)) {v : Value} (hy : ev ρ y = v) (hv : v.cells = cs)
    (hb : BUpd own [(b, .cells arr tb (0, 0))] [(b, .cells cs tb (0, 0))] own') (hk : cs.size = k) (hk' : arr.size = k) (h1 : ∀ c ∈ cs.toList, c.oneCell' = true) (h : WL P E n ds m own' ρ ops rest ks) :
    WL P E n ds m own ρ ops (⟨none, .store t x y, ty, pos, af, none⟩ :: rest) ks := by
  refine WL.stepNone (by simp) fun w hs => ?_
  have hb' := hs.inv.mine (b, .cells arr tb (0, 0)) (hb.at.mem _ (by simp))
  obtain ⟨w', h2, h3⟩ := run_storeVar (P := P) (t := t) (v := v) (off := 0) hb' (by rw [hv]; exact hk) (by omega) (by intro j _; simp) (by rw [hv]; exact h1)
  have e : setAt arr 0 v.cells.toList = cs := by
    rw [hv]
    apply Array.ext_getElem?
    intro i
    rw [setAt_get _ _ _ _ (by simp; omega)]
    by_cases hi : i < cs.size
    · rw [if_pos (by simp; omega)]; simp
    · rw [if_neg (by simp; omega), Array.getElem?_eq_none (by omega), Array.getElem?_eq_none (by omega)]
  rw [e] at h3
  refine ⟨w', m, own', .inl ?_, hs.put hb h3.turned, h⟩
  simp [execOp, Instr.storeAt, Instr.sureAddr, hx, hy, Result.andThen, h2]

theorem run_fieldPlace {s f off : Nat} [hF : Fld P s f off] (a : Addr) (w : World) : ∃ fs x, P.underlying s = some (.struct fs) ∧ fs[f]? = some x ∧ (fieldPlace a x).run P w = .ok (a.add off) w := by
  have h := hF.ok
  unfold fldOf at h
  split at h
  · rename_i fs hu
    split at h
    · rename_i x hx
      split at h
      · rename_i i hi
        split at h
        · cases h
        · rename_i hz
          injection h with h
          refine ⟨fs, x, hu, hx, ?_⟩
          simp [fieldPlace, sizeOf, typeInfo, Sem.run_bind, hi, Result.andThen, hz, h]
      · cases h
    · cases h
  · cases h
theorem WL.fieldO {s f off b o : Nat} [hF : Fld P s f off] (hd : Nat.blt d n = true) (hx : ev ρ x = .pointer (some ⟨b, o, none⟩)) (h : WL P E n ds m own (upd ρ d (.pointer (some ⟨b, o + off, none⟩))) ops rest ks) :
    WL P E n ds m own ρ ops (⟨some d, .fieldAddr s x f, ty, pos, af, none⟩ :: rest) ks := by
  refine WL.pure hd (by simp) (fun w => ?_) h
  obtain ⟨fs, fl, h1, h2, h3⟩ := run_fieldPlace (P := P) (s := s) (f := f) (off := off) ⟨b, o, none⟩ w
  have e : (⟨b, o, none⟩ : Addr).add off = ⟨b, o + off, none⟩ := addr_add _ _ _
  simp [execOp, Instr.fieldAt, Instr.sureAddr, hx, Sem.run_bind, run_underlying h1, Result.andThen, h2, h3, e]
theorem WL.fieldE {s f off : Nat} {p : Value} {cs : List Value} {R : Nat → Obj → Prop} [hF : Fld P s f off] (hd : Nat.blt d n = true) (hx : ev ρ x = p) (hp : PtE R p cs)
    (h : ∀ p', PtE R p' (cs.drop off) → WL P E n ds m own (upd ρ d p') ops rest ks) :
    WL P E n ds m own ρ ops (⟨some d, .fieldAddr s x f, ty, pos, af, none⟩ :: rest) ks := by
  obtain ⟨b, o, rfl, arr, t', fz, hb, hc⟩ := hp
  refine WL.fieldO (off := off) hd hx (h _ ⟨b, o + off, rfl, arr, t', fz, hb, fun i v hi => ?_⟩)
  rw [List.getElem?_drop] at hi
  rw [Nat.add_assoc]; exact hc _ _ hi

theorem WL.indexE {el : TypeId} {k bytes j : Nat} {agg : Bool} {z v xv : Value} {xs : List Value} {kk : IntKind} {i : Int} {R : Nat → Obj → Prop} [hU : Und P t (.slice el)] [hT : Ty P el agg k bytes z] (hd : Nat.blt d n = true)
    (hx : ev ρ x = v) (hs : Sl R k v xs) (hy : ev ρ y = .int kk i) (hij : i = (j : Int)) (hj : xs[j]? = some xv)
    (h : ∀ p, PtE R p xv.cells.toList → WL P E n ds m own (upd ρ d p) ops rest ks) :
    WL P E n ds m own ρ ops (⟨some d, .indexAddr t x y, ty, pos, af, none⟩ :: rest) ks := by
  obtain ⟨a, cap, rfl, h2, h3, h4⟩ := hs
  obtain ⟨b, off, arr, t', fz, rfl, hb, hc⟩ := h4 (by rintro rfl; simp at hj)
  have hlt : j < xs.length := by
    rcases Nat.lt_or_ge j xs.length with h | h
    · exact h
    · rw [List.getElem?_eq_none h] at hj; cases hj
  subst hij
  have e : (⟨b, off, none⟩ : Addr).add (j * k) = ⟨b, off + j * k, none⟩ := addr_add _ _ _
  refine WL.pure hd (by simp) (fun w => ?_) (h (.pointer (some ⟨b, off + j * k, none⟩)) ⟨b, off + j * k, rfl, arr, t', fz, hb, fun i u hi => hc j xv hj i u (by simpa using hi)⟩)
  simp [execOp, Instr.indexAt, hx, hy, asIntOf, Sem.run_bind, run_underlying hU.ok, Result.andThen, hT.size, e, hlt]

theorem WL.lenSl {el : TypeId} {a : Option Addr} {len cap : Nat} [hU : Und P t (.slice el)] (hd : Nat.blt d n = true) (hx : ev ρ x = .slice a len cap)
    (h : WL P E n ds m own (upd ρ d (.int .i64 (len : Nat))) ops rest ks) : WL P E n ds m own ρ ops (⟨some d, .call ⟨.builtin .len, #[x], #[t]⟩, ty, pos, af, none⟩ :: rest) ks :=
  WL.pure hd (by simp) (fun _ => by
    simp [execOp, resolve, hx, invoke, builtin, Builtin.len_, run_underlying hU.ok, goInt]) h

theorem WL.lenS {a : List UInt8} [hU : Und P t .string] (hd : Nat.blt d n = true) (hx : ev ρ x = str a) (h : WL P E n ds m own (upd ρ d (.int .i64 (a.length : Nat))) ops rest ks) :
    WL P E n ds m own ρ ops (⟨some d, .call ⟨.builtin .len, #[x], #[t]⟩, ty, pos, af, none⟩ :: rest) ks :=
  WL.pure hd (by simp) (fun _ => by
    simp only [str] at hx
    simp [execOp, resolve, hx, invoke, builtin, Builtin.len_, run_underlying hU.ok, goInt]
    rfl) h
theorem WL.indexS {l : List UInt8} {kk : IntKind} {i : Int} {j : Nat} {c : UInt8} [hU : Und P t .string] (hd : Nat.blt d n = true) (hx : ev ρ x = str l) (hy : ev ρ y = .int kk i) (hij : i = (j : Int)) (hc : l[j]? = some c)
    (h : WL P E n ds m own (upd ρ d (byt c)) ops rest ks) : WL P E n ds m own ρ ops (⟨some d, .index t x y, ty, pos, af, none⟩ :: rest) ks := by
  subst hij
  refine WL.pure hd (by simp) (fun w => ?_) h
  have hlt : j < l.length := by
    rcases Nat.lt_or_ge j l.length with h | h
    · exact h
    · rw [List.getElem?_eq_none h] at hc; cases hc
  have e : (ByteArray.mk l.toArray)[j]? = some c := by
    have hs : j < (ByteArray.mk l.toArray).size := by simpa [ByteArray.size] using hlt
    rw [getElem?_pos (ByteArray.mk l.toArray) j hs]
    rw [List.getElem?_eq_getElem hlt] at hc
    exact hc
  simp only [str] at hx
  simp [execOp, Instr.index, hx, hy, asIntOf, Sem.run_bind, run_underlying hU.ok, Result.andThen, e, byt]

theorem extract_str (l : List UInt8) (lo hi : Nat) : (ByteArray.mk l.toArray).extract lo hi = ByteArray.mk ((l.take hi).drop lo).toArray := by
  apply ByteArray.ext
  rw [ByteArray.data_extract]
  apply Array.ext'
  simp [List.drop_take]
theorem WL.sliceS {l : List UInt8} {lo hi : Option Operand} {lo' hi' : Nat} [hU : Und P t .string] (hd : Nat.blt d n = true) (hx : ev ρ x = str l)
    (hlo : ∀ o, lo = some o → ∃ kk, ev ρ o = .int kk (lo' : Int)) (hlo0 : lo = none → lo' = 0) (hhi : ∀ o, hi = some o → ∃ kk, ev ρ o = .int kk (hi' : Int)) (hhi0 : hi = none → hi' = l.length) (h1 : lo' ≤ hi') (h2 : hi' ≤ l.length)
    (h : WL P E n ds m own (upd ρ d (str ((l.take hi').drop lo'))) ops rest ks) : WL P E n ds m own ρ ops (⟨some d, .slice t x lo hi none, ty, pos, af, none⟩ :: rest) ks := by
  refine WL.pure hd (by simp) (fun w => ?_) h
  simp only [str] at hx
  have hsz : (ByteArray.mk l.toArray).size = l.length := by simp [ByteArray.size]
  cases lo with
  | none =>
    obtain rfl := hlo0 rfl
    cases hi with
    | none =>
      obtain rfl := hhi0 rfl
      simp [execOp, Instr.sliceAt, Instr.slice, Instr.sliceBounds, hx, Sem.run_bind, run_underlying hU.ok, Result.andThen, str]
    | some o =>
      obtain ⟨kk, ho⟩ := hhi o rfl
      simp [execOp, Instr.sliceAt, Instr.slice, Instr.sliceBounds, Instr.sliceBound, asIntOf, hx, ho, Sem.run_bind, run_underlying hU.ok, Result.andThen, -ByteArray.size_data, hsz, extract_str, str, h2]
  | some o =>
    obtain ⟨kk, ho⟩ := hlo o rfl
    cases hi with
    | none =>
      obtain rfl := hhi0 rfl
      simp [execOp, Instr.sliceAt, Instr.slice, Instr.sliceBounds, Instr.sliceBound, asIntOf, hx, ho, Sem.run_bind, run_underlying hU.ok, Result.andThen, -ByteArray.size_data, hsz, extract_str, str, h1]
    | some o' =>
      obtain ⟨kk', ho'⟩ := hhi o' rfl
      simp [execOp, Instr.sliceAt, Instr.slice, Instr.sliceBounds, Instr.sliceBound, asIntOf, hx, ho, ho', Sem.run_bind, run_underlying hU.ok, Result.andThen, -ByteArray.size_data, hsz, extract_str, str, h1, h2]
/-- s[lo:] -/
theorem WL.sliceSL {l : List UInt8} {o : Operand} {kk : IntKind} {i : Int} {lo' : Nat} [hU : Und P t .string] (hd : Nat.blt d n = true) (hx : ev ρ x = str l) (ho : ev ρ o = .int kk i) (hi : i = (lo' : Int)) (h1 : lo' ≤ l.length)
    (h : WL P E n ds m own (upd ρ d (str (l.drop lo'))) ops rest ks) : WL P E n ds m own ρ ops (⟨some d, .slice t x (some o) none none, ty, pos, af, none⟩ :: rest) ks := by
  subst hi
  exact WL.sliceS (lo' := lo') (hi' := l.length) hd hx (by rintro _ ⟨rfl⟩; exact ⟨kk, ho⟩) (by simp) (by simp) (by simp) h1 (Nat.le_refl _) (by simpa using h)
/-- s[:hi] -/
theorem WL.sliceSH {l : List UInt8} {o : Operand} {kk : IntKind} {i : Int} {hi' : Nat} [hU : Und P t .string] (hd : Nat.blt d n = true) (hx : ev ρ x = str l) (ho : ev ρ o = .int kk i) (hi : i = (hi' : Int)) (h1 : hi' ≤ l.length)
    (h : WL P E n ds m own (upd ρ d (str (l.take hi'))) ops rest ks) : WL P E n ds m own ρ ops (⟨some d, .slice t x none (some o) none, ty, pos, af, none⟩ :: rest) ks := by
  subst hi
  exact WL.sliceS (lo' := 0) (hi' := hi') hd hx (by simp) (by simp) (by rintro _ ⟨rfl⟩; exact ⟨kk, ho⟩) (by simp) (Nat.zero_le _) h1 (by simpa using h)
/-- s[lo:hi] -/
theorem WL.sliceSLH {l : List UInt8} {o o' : Operand} {kk kk' : IntKind} {i i' : Int} {lo' hi' : Nat} [hU : Und P t .string] (hd : Nat.blt d n = true) (hx : ev ρ x = str l) (ho : ev ρ o = .int kk i) (hi : i = (lo' : Int)) (ho' : ev ρ o' = .int kk' i') (hi2 : i' = (hi' : Int)) (h1 : lo' ≤ hi') (h2 : hi' ≤ l.length)
    (h : WL P E n ds m own (upd ρ d (str ((l.take hi').drop lo'))) ops rest ks) : WL P E n ds m own ρ ops (⟨some d, .slice t x (some o) (some o') none, ty, pos, af, none⟩ :: rest) ks := by
  subst hi; subst hi2
  exact WL.sliceS (lo' := lo') (hi' := hi') hd hx (by rintro _ ⟨rfl⟩; exact ⟨kk, ho⟩) (by simp) (by rintro _ ⟨rfl⟩; exact ⟨kk', ho'⟩) (by simp) h1 h2 h
theorem WL.nilCheck {a : Addr} (hd : Nat.blt d n = true) (hx : ev ρ x = .pointer (some a)) (h : WL P E n ds m own (upd ρ d (.pointer (some a))) ops rest ks) :
    WL P E n ds m own ρ ops (⟨some d, .nilCheck x, ty, pos, af, none⟩ :: rest) ks :=
  WL.pure hd (by simp) (fun w => by simp [execOp, hx]) h
/-- p == nil -/
theorem WL.eqlPN {el : TypeId} {q : Option Addr} [hU : Und P t (.pointer el)] (hd : Nat.blt d n = true) (hx : ev ρ x = .pointer q) (hy : ev ρ y = .pointer none) (h : WL P E n ds m own (upd ρ d (.bool q.isNone)) ops rest ks) :
    WL P E n ds m own ρ ops (⟨some d, .binOp .eql t x y tz, ty, pos, af, none⟩ :: rest) ks := by
  refine WL.pure hd (by simp) (fun w => ?_) h
  have h1 : ∀ d : Nat, (Op.equalIn (d + 1) t (.pointer q) (.pointer none)).run P w = .ok q.isNone w := fun d => by
    cases q <;> simp [Op.equalIn, run_underlying hU.ok, Sem.run_bind, Result.andThen]
  simp [execOp, hx, hy, binOp, eqGuard, Op.equal, Op.maxDepth, h1 9999, Result.andThen]
/-- p != p -/
theorem WL.neqPP {el : TypeId} {k bytes : Nat} {agg : Bool} {z : Value} {a : Addr} [hU : Und P t (.pointer el)] [hT : Ty P el agg k bytes z] (hd : Nat.blt d n = true) (hx : ev ρ x = .pointer (some a)) (hy : ev ρ y = .pointer (some a))
    (h : WL P E n ds m own (upd ρ d (.bool false)) ops rest ks) : WL P E n ds m own ρ ops (⟨some d, .binOp .neq t x y tz, ty, pos, af, none⟩ :: rest) ks := by
  refine WL.pure hd (by simp) (fun w => ?_) h
  obtain ⟨_, i, _, hi, _⟩ := hT.parts
  have h1 := Lib.run_neq_ptr_same w a hU.ok hi
  simp [execOp, hx, hy, eqGuard, h1, Result.andThen]
theorem WL.toUnsafe {el t1 tb : TypeId} {k bytes b : Nat} {agg : Bool} {z : Value} {arr : Array Value} [hU : Und P t1 (.pointer el)] [hV : Und P t .unsafePointer] [hT : Ty P el agg k bytes z] (hd : Nat.blt d n = true) (hx : ev ρ x = .pointer (some ⟨b, 0, none⟩))
    (hb : Box own b arr tb) (hk : k ≠ 0) (h0 : 0 < arr.size) (h : WL P E n ds m own (upd ρ d (.pointer (some ⟨b, 0, none⟩))) ops rest ks) :
    WL P E n ds m own ρ ops (⟨some d, .convert t1 t x, ty, pos, af, none⟩ :: rest) ks := by
  refine WL.step hd (by simp) fun w hs => ⟨_, w, m, own, ?_, hs, h⟩
  obtain ⟨_, i, _, hi, _, hsz, _⟩ := hT.parts
  have hb' := hs.inv.mine (b, .cells arr tb (0, 0)) (hb.mem _ (by simp))
  have hsh : w.shape? b = some (tb, arr.size) := by simp [World.shape?, hb']
  have := Lib.run_to_unsafe (P := P) w ⟨b, 0, none⟩ hU.ok hV.ok hi (by rw [hsz]; exact hk) hsh h0
  simp [execOp, hx, this, Result.andThen]
theorem WL.fromUnsafe {el t1 tb : TypeId} {k bytes b : Nat} {agg : Bool} {z : Value} {arr : Array Value} [hU : Und P t1 .unsafePointer] [hV : Und P t (.pointer el)] [hT : Ty P el agg k bytes z] (hd : Nat.blt d n = true) (hx : ev ρ x = .pointer (some ⟨b, 0, none⟩))
    (hb : Box own b arr tb) (hl : liesAt P P.depth tb (arr.size / P.cellsOf tb) 0 el 1 = true) (h : WL P E n ds m own (upd ρ d (.pointer (some ⟨b, 0, none⟩))) ops rest ks) :
    WL P E n ds m own ρ ops (⟨some d, .convert t1 t x, ty, pos, af, none⟩ :: rest) ks := by
  refine WL.step hd (by simp) fun w hs => ⟨_, w, m, own, ?_, hs, h⟩
  obtain ⟨_, i, _, hi, _, hsz, _⟩ := hT.parts
  have hb' := hs.inv.mine (b, .cells arr tb (0, 0)) (hb.mem _ (by simp))
  have hsh : w.shape? b = some (tb, arr.size) := by simp [World.shape?, hb']
  have := Lib.run_from_unsafe (P := P) w ⟨b, 0, none⟩ hU.ok hV.ok hi hsh hl
  simp [execOp, hx, this, Result.andThen]
/-- A library's function without a Go body. -/
theorem WL.extern {f : FuncId} {fn : Func} {args : Array Operand} {tys : Array TypeId} {e : Array Value → Sem Value} {vs : List Value} {v : Value} (hd : Nat.blt d n = true) (hf : P.funcs[f]? = some fn) (hname : (fn.name == "runtime.NumGoroutine") = false)
    (hb : fn.body.isNone = true) (hn : Extern.findNext fn = none) (he : Extern.find fn = some e) (ha : args.toList.map (ev ρ) = vs) (hr : ∀ w, (e vs.toArray).run P w = .ok v w) (h : WL P E n ds m own (upd ρ d v) ops rest ks) :
    WL P E n ds m own ρ ops (⟨some d, .call ⟨.value (.func f), args, tys⟩, ty, pos, af, none⟩ :: rest) ks := by
  refine WL.pure hd (by simp) (fun w => ?_) h
  have e1 : args.map (ev ρ) = vs.toArray := by subst ha; apply Array.ext'; simp
  have := run_callFunc_extern hf hname hb hn he vs.toArray w
  simp [execOp, resolve, ev, Deferred.ofValue, invoke, e1, this, hr, Result.andThen]
/-- Own bundles are parted or joined. -/
theorem Ent.St.flat {Γ : Ent} {w : World} (h : Γ.St m own w) (hp : own'.flatten = own.flatten) : Γ.St m own' w :=
  ⟨⟨h.inv.imm, fun p hq => h.inv.mine p (hp ▸ hq), fun p hq => h.inv.dis p (hp ▸ hq), by have := h.inv.nd; simp only [keys] at this ⊢; rw [hp]; exact this⟩,
   h.os, h.tape, h.output, h.size, h.keep, h.le, h.newm, fun b hb => h.newo b (by simp only [keys] at hb ⊢; rw [← hp]; exact hb)⟩
theorem WK.flat {e : Exit} (hp : own'.flatten = own.flatten) (h : WK P E n ds m own' ρ e ks) : WK P E n ds m own ρ e ks := fun a w hf hs => h a w hf (hs.flat hp)
theorem WL.flat {ops : Array Oper} {l : List Oper} (hp : own'.flatten = own.flatten) (h : WL P E n ds m own' ρ ops l ks) : WL P E n ds m own ρ ops l ks := fun a w hf hs => h a w hf (hs.flat hp)
end
end Go.SL
