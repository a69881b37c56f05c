/- Rules of the separation-logic layer: append, built slices and structs, bytes and texts, numbers between kinds. -/
import Derived.Test.YtbigjpjmdkgjmaaDoorSlCall
import Derived.Laws.IdiomStrings
namespace Go.SL
open Go

theorem growBy_le (nl : Nat) : ∀ (r c : Nat), c ≤ nl + (nl + 768) → Builtin.growBy nl r c ≤ nl + (nl + 768) := by
  intro r
  induction r with
  | zero => intro c h; simpa [Builtin.growBy] using h
  | succ r ih =>
    intro c h
    simp only [Builtin.growBy]
    split
    · exact h
    · exact ih _ (by omega)
theorem nextcap_le (nl oc : Nat) (h : oc ≤ nl) : Builtin.nextslicecap nl oc ≤ nl + (nl + 768) := by
  unfold Builtin.nextslicecap
  split
  · omega
  · split
    · omega
    · exact growBy_le _ _ _ (by omega)

theorem zeroCells_size (z : Array Value) (n : Nat) : (Builtin.zeroCells z n).size = n * z.size := by simp [Builtin.zeroCells]

/-- The cells of elements, one after the other. -/
def cellsOf : List Value → List Value
  | [] => []
  | x :: xs => x.cells.toList ++ cellsOf xs
theorem cellsOf_length {k : Nat} : ∀ {xs : List Value}, (∀ x ∈ xs, x.cells.size = k) → (cellsOf xs).length = xs.length * k := by
  intro xs
  induction xs with
  | nil => intro _; simp [cellsOf]
  | cons x xs ih =>
    intro h
    simp only [cellsOf, List.length_append, List.length_cons, Array.length_toList]
    rw [ih fun y hy => h y (List.mem_cons_of_mem _ hy), h x (List.mem_cons_self ..), Nat.add_mul]
    omega
theorem cellsOf_get {k : Nat} : ∀ {xs : List Value}, (∀ x ∈ xs, x.cells.size = k) → ∀ (j : Nat) x, xs[j]? = some x → ∀ (i : Nat) c, x.cells[i]? = some c → (cellsOf xs)[j * k + i]? = some c := by
  intro xs
  induction xs with
  | nil => intro _ j x hj; simp at hj
  | cons y ys ih =>
    intro h j x hj i c hc
    have hy := h y (List.mem_cons_self ..)
    cases j with
    | zero =>
      simp only [List.getElem?_cons_zero, Option.some.injEq] at hj
      subst hj
      have hi : i < k := by
        rw [← hy]
        rcases Nat.lt_or_ge i y.cells.size with h | h
        · exact h
        · rw [Array.getElem?_eq_none h] at hc; cases hc
      simp only [cellsOf, Nat.zero_mul, Nat.zero_add]
      rw [List.getElem?_append_left (by simpa [hy] using hi)]
      simpa using hc
    | succ j =>
      simp only [List.getElem?_cons_succ] at hj
      simp only [cellsOf]
      rw [List.getElem?_append_right (by simp [hy, Nat.add_mul]; omega)]
      have e : (j + 1) * k + i - y.cells.toList.length = j * k + i := by simp [hy, Nat.add_mul]; omega
      rw [e]
      exact ih (fun z hz => h z (List.mem_cons_of_mem _ hz)) j x hj i c hc
theorem cellsOf_inv {k : Nat} : ∀ {xs : List Value}, (∀ x ∈ xs, x.cells.size = k) → ∀ (q : Nat) c, (cellsOf xs)[q]? = some c → ∃ j x i, xs[j]? = some x ∧ x.cells[i]? = some c ∧ q = j * k + i := by
  intro xs
  induction xs with
  | nil => intro _ q c h; simp [cellsOf] at h
  | cons y ys ih =>
    intro h q c hc
    have hy := h y (List.mem_cons_self ..)
    simp only [cellsOf] at hc
    by_cases hq : q < k
    · rw [List.getElem?_append_left (by simpa [hy] using hq)] at hc
      exact ⟨0, y, q, rfl, by simpa using hc, by omega⟩
    · rw [List.getElem?_append_right (by simp [hy]; omega)] at hc
      obtain ⟨j, x, i, h1, h2, h3⟩ := ih (fun z hz => h z (List.mem_cons_of_mem _ hz)) _ c hc
      refine ⟨j + 1, x, i, by simpa using h1, h2, ?_⟩
      simp only [Array.length_toList, hy] at h3
      rw [Nat.add_mul]
      omega
theorem cellsOf_append (a b : List Value) : cellsOf (a ++ b) = cellsOf a ++ cellsOf b := by
  induction a with
  | nil => rfl
  | cons x a ih => simp [cellsOf, ih]

theorem Sl.loadH {P : Program} {R : Nat → Obj → Prop} {w : World} {k : Nat} {a : Option Addr} {len cap : Nat} {xs : List Value} (hs : ∀ b o, R b o → w.heap[b]? = some o) (h : Sl R k (.slice a len cap) xs) :
    (Builtin.firstCells k len (.slice a len cap)).run P w = .ok (cellsOf xs).toArray w := by
  obtain ⟨a', cap', e, h2, h3f, h4⟩ := h
  have h3 : ∀ x ∈ xs, x.cells.size = k := fun x hx => (h3f x hx).1
  injection e with e1 e2 e3
  subst e1; subst e2; subst e3
  cases xs with
  | nil =>
    cases a with
    | none => simp [Builtin.firstCells, cellsOf]
    | some a => simp [Builtin.firstCells, cellsOf, loadCells, loadCellsFrom]
  | cons x xs =>
    obtain ⟨b, off, arr, t, fz, rfl, hb, hc⟩ := h4 (by simp)
    have hb' := hs _ _ hb
    have hrun := run_loadCells (P := P) (w := w) (a := ⟨b, off, none⟩) (cs := cellsOf (x :: xs)) (fun q c hq => by
      rw [cell_add hb']
      obtain ⟨j, y, i, g1, g2, rfl⟩ := cellsOf_inv h3 q c hq
      rw [← Nat.add_assoc]
      exact hc j y g1 i c g2)
    rw [cellsOf_length h3] at hrun
    simp only [Builtin.firstCells]
    exact hrun

theorem OSl.build {k cap b : Nat} {t : TypeId} {arr : Array Value} {fz : Nat × Nat} {xs : List Value} (hk : ∀ x ∈ xs, Fit k x) (hcap : xs.length ≤ cap) (hsz : arr.size = cap * k)
    (hfz : ∀ i, i < arr.size → (fz.1 ≤ i && i < fz.2) = false) (hpre : ∀ (q : Nat) c, (cellsOf xs)[q]? = some c → arr[q]? = some c) : OSl [(b, .cells arr t fz)] k t (.slice (some ⟨b, 0, none⟩) xs.length cap) xs :=
  .inr ⟨b, arr, cap, fz, rfl, rfl, hcap, hsz, hfz, hk, fun j x hj i c hc => hpre _ _ (cellsOf_get (fun x hx => (hk x hx).1) j x hj i c hc)⟩

theorem cut_ge (need old : Nat) (el : TypeId) (t : Nat) : need ≤ (Question.appendCap need old el).cut t := by
  unfold Question.cut
  exact Nat.le_add_right _ _
/-- What an append of new elements to an own slice does: one run, a new bundle. -/
theorem run_append {P : Program} {Γ : Ent} {m : Imm} {own : Own} {w : World} {T T2 el : TypeId} {k bytes : Nat} {agg : Bool} {z v v2 : Value} {blk : Bun} {xs ys : List Value} {ty : TypeId}
    (hU : P.underlying T = some (.slice el)) (hT : Ty P el agg k bytes z) (hz : z.cells.size = k) (hU2 : P.underlying T2 = some (.slice el) ∨ P.underlying T2 = some .string)
    (hO : OSl blk k el v xs) (hs : Γ.St m own w) (hblk : ∀ p ∈ blk, p ∈ own.flatten) (hlen : (Builtin.lenOf v2).run P w = .ok ys.length w)
    (hread : ∀ w1 : World, w1.heap = w.heap → (Builtin.firstCells k ys.length v2).run P w1 = .ok (cellsOf ys).toArray w1) (hysf : ∀ y ∈ ys, Fit k y)
    (hb0 : 0 < bytes) (hb : (2 * (xs.length + ys.length) + 768) * bytes ≤ 281474976710656) :
    ∃ v' w' blk', (Builtin.append_ #[T, T2] ty #[v, v2]).run P w = .ok v' w' ∧ OSl blk' k el v' (xs ++ ys) ∧ Turned w w' blk blk' := by
  have hxsf : ∀ x ∈ xs, Fit k x := by
    rcases hO with ⟨_, rfl, _⟩ | ⟨_, _, _, _, _, _, _, _, _, h, _⟩
    · simp
    · exact h
  have hxsk : ∀ x ∈ xs, x.cells.size = k := fun x hx => (hxsf x hx).1
  have hys : ∀ y ∈ ys, y.cells.size = k := fun x hx => (hysf x hx).1
  have hone : ∀ y ∈ ys, ∀ c ∈ y.cells.toList, c.oneCell' = true := fun x hx => (hysf x hx).2
  have hallk : ∀ x ∈ xs ++ ys, Fit k x := by
    intro x hx
    rcases List.mem_append.1 hx with hx | hx
    · exact hxsf x hx
    · exact hysf x hx
  have hyl : (cellsOf ys).length = ys.length * k := cellsOf_length hys
  have hxl : (cellsOf xs).length = xs.length * k := cellsOf_length hxsk
  obtain ⟨inf, hi1, hi2, hi3⟩ := hT.info w
  have hone' : ∀ c ∈ cellsOf ys, c.oneCell' = true := by
    intro c hc
    obtain ⟨q, hq⟩ := List.getElem?_of_mem hc
    obtain ⟨j, x, i, g1, g2, _⟩ := cellsOf_inv hys q c hq
    exact hone x (List.mem_of_getElem? g1) c (by simpa using Array.mem_of_getElem? g2)
  -- the new row
  have grow : ∀ (a : Option Addr) (sCap : Nat), v = .slice a xs.length sCap → xs.length ≤ sCap → sCap < xs.length + ys.length → (Builtin.firstCells k xs.length v).run P w = .ok (cellsOf xs).toArray w →
      (∀ w1 : World, w1.heap = w.heap → (Builtin.firstCells k xs.length v).run P w1 = .ok (cellsOf xs).toArray w1) →
      ∃ v' w' blk', (Builtin.append_ #[T, T2] ty #[v, v2]).run P w = .ok v' w' ∧ OSl blk' k el v' (xs ++ ys) ∧ Turned w w' blk blk' := by
    rintro a sCap rfl h1 h2 _ hold
    have hq : (Question.appendCap (xs.length + ys.length) sCap el).forced = false := rfl
    have hcap := nextcap_le (xs.length + ys.length) sCap (by omega)
    have hbig : ¬ Builtin.nextslicecap (xs.length + ys.length) sCap * bytes > 2 ^ 48 := by
      generalize Builtin.nextslicecap (xs.length + ys.length) sCap = c at hcap
      have hc : c ≤ 2 * (xs.length + ys.length) + 768 := by rw [Nat.two_mul, Nat.add_assoc]; exact hcap
      have := Nat.mul_le_mul_right bytes hc
      have e : (2 : Nat) ^ 48 = 281474976710656 := by decide
      rw [e]; omega
    obtain ⟨nc, hnc⟩ : ∃ nc, nc = (Question.appendCap (xs.length + ys.length) sCap el).cut (w.tape w.drawn (.appendCap (xs.length + ys.length) sCap el)) := ⟨_, rfl⟩
    have hnc' : xs.length + ys.length ≤ nc := Nat.le_trans (cut_ge _ sCap el _) (Nat.le_of_eq hnc.symm)
    let w1 : World := w.drew
    let arr := (cellsOf xs).toArray ++ (cellsOf ys).toArray ++ Builtin.zeroCells z.cells (nc - (xs.length + ys.length))
    refine ⟨.slice (some ⟨w.heap.size, 0, none⟩) (xs ++ ys).length nc, pushed w1 (.cells arr el (0, 0)), [(w.heap.size, .cells arr el (0, 0))], ?_, ?_, ?_⟩
    · have hz1 : ∀ u : World, (zeroValue el).run P u = .ok z u := fun u => hT.zero u
      have hinfo : ∀ u : World, (typeInfo el).run P u = .ok inf u := by
        intro u
        obtain ⟨d, i, g1, g2, g3, g4, g5, g6⟩ := hT.parts
        have : inf = i := by
          simp [typeInfo, g2] at hi1
          exact hi1.symm
        subst this
        simp [typeInfo, g2]
      have hneed : ¬ (xs.length + ys.length ≤ sCap) := Nat.not_le.2 h2
      have hr1 := hold w.drew rfl
      have hr2 := hread w.drew rfl
      rw [← hi2] at hbig
      have hi0 : inf.bytes ≠ 0 := by rw [hi2]; exact Nat.pos_iff_ne_zero.1 hb0
      have e : w.drew.alloc (Obj.cells ((cellsOf xs).toArray ++ ((cellsOf ys).toArray ++ Builtin.zeroCells z.cells (nc - (xs.length + ys.length)))) el) = pushed w1 (Obj.cells arr el (0, 0)) := by
        simp only [arr, w1, Array.append_assoc]; rfl
      rcases hU2 with hU2 | hU2
      · simp [Builtin.append_, Sem.run_bind, Result.andThen, run_underlying hU, run_underlying hU2, hT.size, hlen, hneed, hinfo, hbig, hz1, newRow, hq, ← hnc, hr1, hr2, hi0]
        exact e
      · simp [Builtin.append_, Sem.run_bind, Result.andThen, run_underlying hU, run_underlying hU2, hT.size, hlen, hneed, hinfo, hbig, hz1, newRow, hq, ← hnc, hr1, hr2, hi0]
        exact e
    · clear hnc
      refine OSl.build hallk (by simp; omega) ?_ (by intro i _; simp) ?_
      · simp only [arr, Array.size_append, List.size_toArray, zeroCells_size, hxl, hyl, hz]
        rw [← Nat.add_mul, ← Nat.add_mul]
        congr 1
        omega
      · intro q c hq
        rw [cellsOf_append] at hq
        simp only [arr]
        rw [Array.getElem?_append_left]
        · simpa using hq
        · have : q < (cellsOf xs ++ cellsOf ys).length := by
            rcases Nat.lt_or_ge q (cellsOf xs ++ cellsOf ys).length with h | h
            · exact h
            · rw [List.getElem?_eq_none h] at hq; cases hq
          simpa using this
    · have ht : Turned w1 (pushed w1 (.cells arr el (0, 0))) [] [(w1.heap.size, .cells arr el (0, 0))] := Turned.push w1 _
      exact ⟨rfl, rfl, rfl, ht.size, fun b hb _ => ht.keep b hb (by simp), ht.mine, by intro b hb; simp only [List.map_cons, List.map_nil, List.mem_singleton] at hb; subst hb; exact .inr (Nat.le_refl _), ht.nd⟩
  rcases hO with ⟨rfl, rfl, a, rfl⟩ | ⟨b, arr, cap, fz, rfl, rfl, h3, h4, h5, h6, h7⟩
  · by_cases hy0 : ys = []
    · subst hy0
      have hr := hread w rfl
      refine ⟨.slice a 0 0, w, [], ?_, .inl ⟨rfl, rfl, a, rfl⟩, rfl, rfl, rfl, Nat.le_refl _, fun _ _ _ => rfl, by simp, by simp, by simp⟩
      simp only [List.length_nil] at hr hlen
      have hst : (storeCells (match a with | some a => a.add (0 * k) | none => default) ([] : List Value)).run P w = .ok () w := rfl
      rcases hU2 with hU2 | hU2 <;> cases a <;> simp [Builtin.append_, Sem.run_bind, Result.andThen, run_underlying hU, run_underlying hU2, hT.size, hlen, hr, cellsOf, storeCells]
    · refine grow a 0 rfl (Nat.le_refl _) (by have := List.length_pos_iff.2 hy0; simp; omega) ?_ fun w1 _ => ?_
      · cases a <;> simp [Builtin.firstCells, cellsOf, loadCells, loadCellsFrom]
      · cases a <;> simp [Builtin.firstCells, cellsOf, loadCells, loadCellsFrom]
  · have hb' := hs.inv.mine (b, .cells arr el fz) (hblk _ (by simp))
    have hold : ∀ w1 : World, w1.heap = w.heap → (Builtin.firstCells k xs.length (.slice (some ⟨b, 0, none⟩) xs.length cap)).run P w1 = .ok (cellsOf xs).toArray w1 := by
      intro w1 h1
      have hb1 : w1.heap[b]? = some (.cells arr el fz) := by rw [h1]; exact hb'
      have hrun := run_loadCells (P := P) (w := w1) (a := ⟨b, 0, none⟩) (cs := cellsOf xs) (fun q c hq => by
        rw [cell_add hb1]
        obtain ⟨j, y, i, g1, g2, rfl⟩ := cellsOf_inv hxsk q c hq
        rw [Nat.zero_add]
        exact h7 j y g1 i c g2)
      rw [hxl] at hrun
      simp only [Builtin.firstCells]
      exact hrun
    by_cases hfit : xs.length + ys.length ≤ cap
    · have hroom : xs.length * k + ys.length * k ≤ arr.size := by rw [h4, ← Nat.add_mul]; exact Nat.mul_le_mul_right _ hfit
      obtain ⟨w', g1, g2⟩ := run_storeCells (P := P) (cellsOf ys) w b (0 + xs.length * k) 0 arr el fz hb' (by rw [hyl]; omega) h5 hone'
      simp only [Nat.zero_add, Nat.add_zero] at g1 g2
      have hr := hread w rfl
      refine ⟨.slice (some ⟨b, 0, none⟩) (xs ++ ys).length cap, w', [(b, .cells (setAt arr (xs.length * k) (cellsOf ys)) el fz)], ?_, ?_, g2.turned⟩
      · rcases hU2 with hU2 | hU2 <;> simp [Builtin.append_, Sem.run_bind, Result.andThen, run_underlying hU, run_underlying hU2, hT.size, hlen, hr, hfit, addr_add, g1]
      · refine OSl.build hallk (by simpa using hfit) (by rw [setAt_size]; exact h4) (by rw [setAt_size]; exact h5) ?_
        intro q c hq
        rw [cellsOf_append] at hq
        rw [setAt_get _ _ _ _ (by rw [hyl]; exact hroom), hyl]
        by_cases h1 : q < xs.length * k
        · rw [if_neg (by omega)]
          rw [List.getElem?_append_left (by omega)] at hq
          obtain ⟨j, y, i, g1, g2, rfl⟩ := cellsOf_inv hxsk q c hq
          exact h7 j y g1 i c g2
        · rw [List.getElem?_append_right (by omega), hxl] at hq
          have : q - xs.length * k < (cellsOf ys).length := by
            rcases Nat.lt_or_ge (q - xs.length * k) (cellsOf ys).length with h | h
            · exact h
            · rw [List.getElem?_eq_none h] at hq; cases hq
          rw [if_pos (by omega)]
          exact hq
    · exact grow _ cap rfl h3 (by omega) (hold w rfl) hold

section
variable {P : Program} {E : Env} {n : Nat} {ds : List Deferred} {m : Imm} {own own' : Own} {ρ : Nat → Value} {ks : List Kt} {ops : Array Oper} {rest : List Oper}
variable {d : Nat} {ty : TypeId} {pos : String} {af : Array Edge} {x y : Operand} {t t2 el : TypeId} {k bytes : Nat} {agg : Bool} {z v v2 : Value} {xs ys : List Value}

theorem OSl.fit {blk : Bun} (h : OSl blk k el v xs) : ∀ x ∈ xs, Fit k x := by
  rcases h with ⟨_, rfl, _⟩ | ⟨_, _, _, _, _, _, _, _, _, h, _⟩
  · simp
  · exact h

theorem run_builtin2 {b : Builtin} {w : World} {tys : Array TypeId} (hx : ev ρ x = v) (hy : ev ρ y = v2) (dst : Option Tmp) :
    (execOp (ev ρ) ⟨dst, .call ⟨.builtin b, #[x, y], tys⟩, ty, pos, af, none⟩).run P w = (builtin b tys ty ((#[x, y] : Array Operand).map fun | .const _ => true | _ => false) #[v, v2]).run P w := by
  simp [execOp, resolve, hx, hy, invoke]
  rfl

/-- append(s, t...): s one's own, t readable. -/
theorem WL.append {blk : Bun} [hU : Und P t (.slice el)] [hT : Ty P el agg k bytes z] (hd : Nat.blt d n = true) (hx : ev ρ x = v) (hO : OSl blk k el v xs) (hA : At own blk) (hy : ev ρ y = v2) (hS : Sl (Rd m own) k v2 ys)
    (hz : z.cells.size = k) (hb0 : Nat.blt 0 bytes = true) (hb : (2 * (xs.length + ys.length) + 768) * bytes ≤ 281474976710656)
    (own' : Bun → Own) (hB : ∀ blk', BUpd own blk blk' (own' blk'))
    (h : ∀ v' blk', OSl blk' k el v' (xs ++ ys) → WL P E n ds m (own' blk') (upd ρ d v') ops rest ks) :
    WL P E n ds m own ρ ops (⟨some d, .call ⟨.builtin .append, #[x, y], #[t, t]⟩, ty, pos, af, none⟩ :: rest) ks := by
  refine WL.step hd (by simp) fun w hs => ?_
  obtain ⟨a2, cap2, e2, _⟩ := hS.shape
  have hyk : ∀ y ∈ ys, Fit k y := by obtain ⟨_, _, _, _, h3, _⟩ := hS; exact h3
  obtain ⟨v', w', blk', g1, g2, g3⟩ := run_append (P := P) (Γ := E.Γ) (m := m) (own := own) (w := w) (T := t) (T2 := t) (ty := ty) (v2 := v2) (ys := ys) hU.ok hT hz (.inl hU.ok) hO hs hA.mem
    (by subst e2; simp [Builtin.lenOf]) (fun w1 h1 => by
      subst e2
      have hs1 : E.Γ.St m own w → (∀ b o, Rd m own b o → w1.heap[b]? = some o) := fun hs b o hr => by rw [h1]; exact hs.rd hr
      exact Sl.loadH (hs1 hs) hS) hyk (by simpa using hb0) hb
  refine ⟨v', w', m, own' blk', ?_, hs.put (hB blk') g3, h v' blk' g2⟩
  rw [run_builtin2 hx hy]
  simp [builtin, g1]

/-- append(bytes, s...): a text's bytes. -/
theorem WL.appendS {blk : Bun} {l : List UInt8} [hU : Und P t (.slice el)] [hU2 : Und P t2 .string] [hT : Ty P el agg 1 bytes z] (hd : Nat.blt d n = true) (hx : ev ρ x = v) (hO : OSl blk 1 el v xs) (hA : At own blk) (hy : ev ρ y = str l)
    (hz : z.cells.size = 1) (hb0 : Nat.blt 0 bytes = true) (hb : (2 * (xs.length + l.length) + 768) * bytes ≤ 281474976710656)
    (own' : Bun → Own) (hB : ∀ blk', BUpd own blk blk' (own' blk'))
    (h : ∀ v' blk', OSl blk' 1 el v' (xs ++ l.map byt) → WL P E n ds m (own' blk') (upd ρ d v') ops rest ks) :
    WL P E n ds m own ρ ops (⟨some d, .call ⟨.builtin .append, #[x, y], #[t, t2]⟩, ty, pos, af, none⟩ :: rest) ks := by
  refine WL.step hd (by simp) fun w hs => ?_
  have hsz : (ByteArray.mk l.toArray).size = l.length := by simp [ByteArray.size]
  have hc : ∀ l : List UInt8, cellsOf (l.map byt) = l.map byt := by
    intro l
    induction l with
    | nil => rfl
    | cons c l ih => simp only [List.map_cons, cellsOf, ih]; rfl
  obtain ⟨v', w', blk', g1, g2, g3⟩ := run_append (P := P) (Γ := E.Γ) (m := m) (own := own) (w := w) (T := t) (T2 := t2) (ty := ty) (v2 := str l) (ys := l.map byt) hU.ok hT hz (.inr hU2.ok) hO hs hA.mem
    (by simp [Builtin.lenOf, str]; exact hsz) (fun w1 _ => by
      rw [hc]
      simp only [Builtin.firstCells, str, Sem.run_pure]
      congr 1
      simp only [List.length_map, ByteArray.data_extract]
      apply Array.ext'
      simp [byt]) (by intro y hy; simp only [List.mem_map] at hy; obtain ⟨c, _, rfl⟩ := hy; exact Fit.one rfl) (by simpa using hb0) (by simpa using hb)
  refine ⟨v', w', m, own' blk', ?_, hs.put (hB blk') g3, h v' blk' g2⟩
  rw [run_builtin2 hx hy]
  simp [builtin, g1]

/-! Built slices: all elements in their order. -/
theorem foldl_setAt : ∀ (vs : List Value) (arr : Array Value) (off i : Nat), (vs.zipIdx i).foldl (fun cs (p : Value × Nat) => cs.setIfInBounds (off + p.2) p.1) arr = setAt arr (off + i) vs := by
  intro vs
  induction vs with
  | nil => intro arr off i; rfl
  | cons v vs ih =>
    intro arr off i
    simp only [List.zipIdx_cons, List.foldl_cons, setAt]
    rw [ih]
    rfl
theorem fill_step {place : Nat → Option (Nat × Nat)} {arr : Array Value} {i off size : Nat} {u : Value} {l : List (Nat × Value)} (hp : place i = some (off, size)) (hu : u.cells.size = size) (ho : off + size ≤ arr.size) :
    Instr.fill place arr ((i, u) :: l) = Instr.fill place (setAt arr off u.cells.toList) l := by
  simp only [Instr.fill, hp]
  rw [if_neg (by simp [hu]; omega)]
  congr 1
  have := foldl_setAt u.cells.toList arr off 0
  simp only [Nat.add_zero] at this
  rw [← this, ← Array.foldl_toList]
  simp
theorem fill_all {k : Nat} : ∀ (xs : List Value) (i : Nat) (arr : Array Value), (∀ x ∈ xs, x.cells.size = k) → (i + xs.length) * k ≤ arr.size →
    Instr.fill (fun i => some (i * k, k)) arr ((xs.zipIdx i).map fun p => (p.2, p.1)) = some (setAt arr (i * k) (cellsOf xs)) := by
  intro xs
  induction xs with
  | nil => intro i arr _ _; rfl
  | cons u xs ih =>
    intro i arr hk hl
    have hu := hk u (List.mem_cons_self ..)
    simp only [List.zipIdx_cons, List.map_cons]
    have h1 : i * k + k ≤ arr.size := by
      have : (i + 1) * k ≤ (i + (u :: xs).length) * k := Nat.mul_le_mul_right _ (by simp)
      rw [Nat.add_mul] at this
      omega
    rw [fill_step (off := i * k) (size := k) rfl hu h1, ih (i + 1) _ (fun y hy => hk y (List.mem_cons_of_mem _ hy)) (by rw [setAt_size]; simp only [List.length_cons] at hl; rw [show i + 1 + xs.length = i + (xs.length + 1) by omega]; exact hl)]
    congr 1
    simp only [cellsOf]
    have hj : ∀ (a b : List Value) (arr : Array Value) (off : Nat), setAt (setAt arr off a) (off + a.length) b = setAt arr off (a ++ b) := by
      intro a
      induction a with
      | nil => intro b arr off; simp [setAt]
      | cons c a ih2 =>
        intro b arr off
        simp only [setAt, List.length_cons, List.cons_append]
        rw [← ih2]
        congr 1
        omega
    rw [show (i + 1) * k = i * k + u.cells.toList.length by simp [hu, Nat.add_mul]]
    exact hj _ _ _ _
theorem setAt_all (vs : List Value) (arr : Array Value) (h : arr.size = vs.length) : setAt arr 0 vs = vs.toArray := by
  apply Array.ext_getElem?
  intro i
  rw [setAt_get _ _ _ _ (by omega)]
  by_cases hi : i < vs.length
  · rw [if_pos (by omega)]; simp
  · rw [if_neg (by omega), Array.getElem?_eq_none (by omega), Array.getElem?_eq_none (by simpa using hi)]

theorem WL.buildSlice {len : Nat} {parts : Array (Nat × Operand)} [hU : Und P t (.slice el)] [hT : Ty P el agg k bytes z] (hd : Nat.blt d n = true) (xs : List Value)
    (hp : (parts.toList.map fun p => (p.1, ev ρ p.2)) = (xs.zipIdx 0).map fun p => (p.2, p.1)) (hlen : xs.length = len) (hkf : Fits k xs) (hsm : Nat.ble (len * k) 16777216 = true)
    (h : ∀ b blk v, blk = [(b, .cells (cellsOf xs).toArray el (0, 0))] → OSl blk k el v xs → WL P E n ds m (blk :: own) (upd ρ d v) ops rest ks) :
    WL P E n ds m own ρ ops (⟨some d, .buildSlice t len parts, ty, pos, af, none⟩ :: rest) ks := by
  subst hlen
  have hk : ∀ x ∈ xs, x.cells.size = k := fun x hx => (hkf.all x hx).1
  have hcl : (cellsOf xs).length = xs.length * k := cellsOf_length hk
  have hO : ∀ b, OSl [(b, .cells (cellsOf xs).toArray el (0, 0))] k el (.slice (some ⟨b, 0, none⟩) xs.length xs.length) xs := fun b =>
    OSl.build hkf.all (Nat.le_refl _) (by simpa using hcl) (by intro i _; simp) (by intro q c hq; simpa using hq)
  refine WL.step hd (by simp) fun w hs => ⟨_, _, m, _, ?_, hs.push (.cells (cellsOf xs).toArray el (0, 0)), h w.heap.size _ _ rfl (hO _)⟩
  have hf : ∀ arr : Array Value, arr.size = xs.length * k → Instr.fill (fun i => some (i * k, k)) arr (parts.map fun p => (p.1, ev ρ p.2)).toList = some (cellsOf xs).toArray := by
    intro arr ha
    rw [Array.toList_map, hp, fill_all xs 0 arr hk (by rw [Nat.zero_add]; omega), Nat.zero_mul, setAt_all _ _ (by omega)]
  simp only [Array.toList_map] at hf
  have hsm' : ¬ (16777216 < xs.length * k) := by simpa using hsm
  by_cases h0 : xs.length * k = 0
  · simp [execOp, Instr.buildSlice, Sem.run_bind, Result.andThen, run_underlying hU.ok, hT.size, h0, newRow, pushed]
    rw [hf _ (by simp [h0])]
    rfl
  · simp [execOp, Instr.buildSlice, Sem.run_bind, Result.andThen, run_underlying hU.ok, hT.size, hT.zero, h0, hsm', newRow, pushed]
    rw [hf _ (by simp)]
    rfl

/-! Structs by value. -/
def bldOf (P : Program) (t : TypeId) : Option (Array (Nat × Nat) × Array Value) :=
  match P.underlying t with
  | some (.struct fs) => match P.info? t with
    | some i => match i.zero with
      | some z => (fs.toList.mapM fun f => (P.info? f.type).map fun j => (f.offset, j.size)).map fun ps => (ps.toArray, z.cells)
      | none => none
    | none => none
  | _ => none
class Bld (P : Program) (t : TypeId) (places : outParam (Array (Nat × Nat))) (zero : outParam (Array Value)) : Prop where
  ok : bldOf P t = some (places, zero)
theorem mapM_places (P : Program) (w : World) : ∀ (fs : List Field) (ps : List (Nat × Nat)), (fs.mapM fun f => (P.info? f.type).map fun j => (f.offset, j.size)) = some ps →
    (fs.mapM fun f => (do pure (f.offset, ← sizeOf f.type) : Sem (Nat × Nat))).run P w = .ok ps w := by
  intro fs
  induction fs with
  | nil => intro ps h; simp at h; subst h; simp
  | cons f fs ih =>
    intro ps h
    simp only [List.mapM_cons, Option.bind_eq_bind, Option.bind_eq_some_iff, Option.map_eq_some_iff] at h
    obtain ⟨p, ⟨i, hi, rfl⟩, qs, hq, h⟩ := h
    simp only [Option.pure_def, Option.some.injEq] at h
    subst h
    simp only [List.mapM_cons, Sem.run_bind, sizeOf, typeInfo, run_program, hi, Result.andThen, Sem.run_pure]
    have := ih qs hq
    simp only [sizeOf, typeInfo] at this
    rw [this]
theorem WL.build {parts : Array (Nat × Operand)} {places : Array (Nat × Nat)} {zero cs : Array Value} [hB : Bld P t places zero] (hd : Nat.blt d n = true)
    (hf : Instr.fill (places[·]?) zero (parts.toList.map fun p => (p.1, ev ρ p.2)) = some cs) (h : WL P E n ds m own (upd ρ d (.agg cs)) ops rest ks) :
    WL P E n ds m own ρ ops (⟨some d, .build t parts, ty, pos, af, none⟩ :: rest) ks := by
  have hb := hB.ok
  unfold bldOf at hb
  split at hb
  · rename_i fs hu
    split at hb
    · rename_i i hi
      split at hb
      · rename_i z hz
        simp only [Option.map_eq_some_iff, Prod.mk.injEq] at hb
        obtain ⟨ps, hps, rfl, rfl⟩ := hb
        refine WL.pure hd (by simp) (fun w => ?_) h
        have hz1 : (zeroValue t).run P w = .ok z w := by simp [zeroValue, typeInfo, hi, hz]
        have hm := mapM_places P w _ _ hps
        have hm2 : (fs.mapM fun f => (do Pure.pure (f.offset, ← sizeOf f.type) : Sem (Nat × Nat))).run P w = .ok ps.toArray w := by
          rw [Array.mapM_eq_mapM_toList, Sem.run_map, hm]
          rfl
        simp only [execOp, Instr.build, Sem.run_bind, hz1, Result.andThen, run_underlying hu]
        rw [hm2]
        simp only [Array.toList_map, hf]
        rfl
      · cases hb
    · cases hb
  · cases hb

/-! Bytes and texts. -/
theorem WL.toBytes {l : List UInt8} {t1 : TypeId} [hU : Und P t1 .string] [hU2 : Und P t (.slice el)] [hE : Und P el (.int .u8)] (hd : Nat.blt d n = true) (hx : ev ρ x = str l)
    (h : ∀ v blk, OSl blk 1 el v (l.map byt) → WL P E n ds m (blk :: own) (upd ρ d v) ops rest ks) :
    WL P E n ds m own ρ ops (⟨some d, .convert t1 t x, ty, pos, af, none⟩ :: rest) ks := by
  refine WL.step hd (by simp) fun w hs => ?_
  have hrun := run_bytes_of_string (P := P) w t1 t el ⟨l.toArray⟩ hU.ok hU2.ok hE.ok
  have hsz : (ByteArray.mk l.toArray).size = l.length := by simp [ByteArray.size]
  obtain ⟨cap, hcap⟩ : ∃ cap, cap = grownCap w (ByteArray.mk l.toArray).size 0 el := ⟨_, rfl⟩
  have hge : l.length ≤ cap := by rw [hcap, ← hsz]; exact grownCap_ge _ _ _ _
  rw [← hcap] at hrun
  clear hcap
  have hrow : (bytesRow ⟨l.toArray⟩ cap).size = cap := by
    simp only [bytesRow, Array.size_append, Array.size_map, Array.size_replicate, hsz]
    simp; omega
  have hO : OSl [(w.heap.size, .cells (bytesRow ⟨l.toArray⟩ cap) el ((bytesRow ⟨l.toArray⟩ cap).size, (bytesRow ⟨l.toArray⟩ cap).size + 1))] 1 el (.slice (some ⟨w.heap.size, 0, none⟩) (l.map byt).length cap) (l.map byt) := by
    refine OSl.build (by intro x hx; simp only [List.mem_map] at hx; obtain ⟨c, _, rfl⟩ := hx; exact Fit.one rfl) (by simpa using hge) (by rw [hrow]; omega) (by intro i hi; simp; intro h; omega) ?_
    intro q c hq
    have hc : ∀ l : List UInt8, cellsOf (l.map byt) = l.map byt := by
      intro l
      induction l with
      | nil => rfl
      | cons c l ih => simp only [List.map_cons, cellsOf, ih]; rfl
    rw [hc] at hq
    have hlt : q < l.length := by
      rcases Nat.lt_or_ge q l.length with h | h
      · exact h
      · rw [List.getElem?_eq_none (by simpa using h)] at hq; cases hq
    simp only [bytesRow]
    rw [Array.getElem?_append_left (by simpa using hlt)]
    simpa [byt] using hq
  have hs1 : E.Γ.St m own w.drew := hs.drewn _
  have hs2 := hs1.push (.cells (bytesRow ⟨l.toArray⟩ cap) el ((bytesRow ⟨l.toArray⟩ cap).size, (bytesRow ⟨l.toArray⟩ cap).size + 1))
  refine ⟨_, _, m, _, ?_, hs2, h _ _ hO⟩
  simp only [str] at hx
  simp only [execOp, hx, Sem.run_bind, hrun, Result.andThen, Sem.run_pure, hsz, List.length_map]
  rfl
theorem WL.ofBytes {l : List UInt8} {t1 : TypeId} [hU : Und P t1 (.slice el)] [hU2 : Und P t .string] [hE : Und P el (.int .u8)] (hd : Nat.blt d n = true) (hx : ev ρ x = v) (hS : Sl (Rd m own) 1 v (l.map byt))
    (h : WL P E n ds m own (upd ρ d (str l)) ops rest ks) :
    WL P E n ds m own ρ ops (⟨some d, .convert t1 t x, ty, pos, af, none⟩ :: rest) ks := by
  refine WL.step hd (by simp) fun w hs => ⟨str l, w, m, own, ?_, hs, h⟩
  obtain ⟨a, cap, rfl, h2, h3, h4⟩ := hS
  cases l with
  | nil =>
    cases a with
    | none => simp [execOp, hx, convert, run_underlying hU.ok, run_underlying hU2.ok, run_underlying hE.ok, Sem.run_bind, Result.andThen, Conv.bytesToString, str]; rfl
    | some a =>
      have := run_convert_bytes_back (P := P) w t1 t el a cap [] hU.ok hE.ok hU2.ok (by simp)
      simp only [List.length_nil, List.map_nil] at this hx ⊢
      simp [execOp, hx, this, str]
  | cons c l =>
    obtain ⟨b, off, arr, t', fz, rfl, hb, hc⟩ := h4 (by simp)
    have hb' := hs.rd hb
    have := run_convert_bytes_back (P := P) w t1 t el ⟨b, off, none⟩ cap (c :: l) hU.ok hE.ok hU2.ok (fun j hj => by
      rw [cell_add hb']
      have := hc j (byt (c :: l)[j]) (by rw [List.getElem?_map, List.getElem?_eq_getElem hj]; rfl) 0 _ rfl
      simp only [Nat.mul_one, Nat.add_zero] at this
      exact this)
    simp only [List.length_map] at hx
    simp only [execOp, hx, Sem.run_bind, this, Result.andThen, Sem.run_pure, str]
/-- A number turned to another kind. -/
theorem WL.convI {kk kd : IntKind} {t1 : TypeId} {a : Int} {sd : TypeDesc} [hU : Und P t1 sd] [hU2 : Und P t (.int kd)] (hd : Nat.blt d n = true) (hx : ev ρ x = .int kk a) (h : WL P E n ds m own (upd ρ d (.int kd (kd.wrap a))) ops rest ks) :
    WL P E n ds m own ρ ops (⟨some d, .convert t1 t x, ty, pos, af, none⟩ :: rest) ks :=
  WL.pure hd (by simp) (fun w => by simp [execOp, hx, convert, run_underlying hU.ok, run_underlying hU2.ok, Sem.run_bind, Result.andThen, Conv.intToInt]) h
end
end Go.SL
