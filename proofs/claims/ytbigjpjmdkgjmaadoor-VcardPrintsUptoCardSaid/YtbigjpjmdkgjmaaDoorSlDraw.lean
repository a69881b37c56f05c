/- The separation-logic layer at a region that draws its order: the first np operations (by the text's order) only compute, in whatever order; the others follow one by one. -/
import Derived.Test.YtbigjpjmdkgjmaaDoorSlApp
import Derived.OrdersIn
namespace Go.SL
open Go

/-- One operation, met by a rule, that leaves memory as it is. -/
def PStep (P : Program) (r : Option Nat) (Γ : Ent) (n : Nat) (ds : List Deferred) (m : Imm) (own : Own) (ops : Array Oper) (ρ : Nat → Value) (o : Oper) (d : Nat) (v : Value) : Prop :=
  ∀ K : Act → World → Prop, WL P ⟨P, r, Γ, fun _ _ _ => False⟩ n ds m own (upd ρ d v) ops [] [.lp K] → WL P ⟨P, r, Γ, fun _ _ _ => False⟩ n ds m own ρ ops [o] [.lp K]

/-- One operation that may change memory; T: what it yields. -/
def QStep (P : Program) (r : Option Nat) (Γ : Ent) (n : Nat) (ds : List Deferred) (m : Imm) (own : Own) (ops : Array Oper) (ρ : Nat → Value) (o : Oper) (d : Nat) (T : Value → Imm → Own → Prop) : Prop :=
  ∀ K : Act → World → Prop, (∀ v m' own', T v m' own' → WL P ⟨P, r, Γ, fun _ _ _ => False⟩ n ds m' own' (upd ρ d v) ops [] [.lp K]) → WL P ⟨P, r, Γ, fun _ _ _ => False⟩ n ds m own ρ ops [o] [.lp K]

/-- The first operations, one by one; 'Fin' of the frame behind them. -/
def WR (P : Program) (r : Option Nat) (Γ : Ent) (n : Nat) (ds : List Deferred) (m : Imm) (own : Own) (ops : Array Oper) (Fin : (Nat → Value) → Prop) : List Oper → (Nat → Value) → Prop
  | [], ρ => Fin ρ
  | o :: l, ρ => ∃ d v, o.dst = some d ∧ Nat.blt d n = true ∧ PStep P r Γ n ds m own ops ρ o d v ∧ WR P r Γ n ds m own ops Fin l (upd ρ d v)

def maskTo (N k : Nat) : Array Bool := ((List.range N).map fun i => decide (i < k)).toArray
def noSel (o : Oper) : Bool := match o.op with | .select .. => false | .defer _ => false | _ => true
def drawOk (ops : Array Oper) (np : Nat) (cl : Array (List Nat)) : Bool :=
  Nat.ble np ops.size &&
  ((List.range ops.size).all fun i => match ops[i]? with
    | some o =>
      o.after.all (fun e => !(Region.binds .any e) || Nat.blt e.on i) &&
      (cl.getD i []).all (fun j => o.after.any fun e => Region.binds .any e && (e.on == j || (cl.getD e.on []).contains j)) &&
      noSel o &&
      (if i < np then (List.range np).all (fun j => i == j || ((ops[j]?).bind (·.dst)) != o.dst) &&
          (o.looksAt ops).all fun t => (List.range np).all fun j => ((ops[j]?).bind (·.dst)) != some t || ((cl.getD i []).contains j && Nat.blt j i)
        else (List.range np).all fun j => (cl.getD i []).contains j)
    | none => false) &&
  ((List.range' np (ops.size - np)).all fun k => Region.ready .any ops (maskTo ops.size k) == [k]) &&
  Region.ready .any ops (maskTo ops.size ops.size) == []

theorem maskTo_get (N k i : Nat) (d : Bool) (h : i < N) : (maskTo N k).getD i d = decide (i < k) := by
  simp [maskTo, Array.getD_eq_getD_getElem?, h]

section
variable {P : Program} {r : Option Nat} {Γ : Ent} {n : Nat} {ds : List Deferred} {m : Imm} {own : Own} {ops : Array Oper}

/-- What a step of more yields, at any frame that agrees where the operation looks. -/
theorem QStep.at_ {ρ ρ' : Nat → Value} {o : Oper} {d : Nat} {T : Value → Imm → Own → Prop} {a : Act} {w : World} {Q : Exit → Act → World → Prop} {K : Act → World → Prop} {i : Nat} (hi : ops[i]? = some o)
    (h : QStep P r Γ n ds m own ops ρ o d T) (hdst : o.dst = some d) (hd : Nat.blt d n = true) (hsel : noSel o = true) (hρ : ∀ k, n ≤ k → ρ k = undef) (hag : ∀ t ∈ o.looksAt ops, ρ' t = ρ t)
    (hf : FrameIs n ds ρ' a) (hs : Γ.St m own w) (hK : ∀ v m' own' a' w', T v m' own' → FrameIs n ds (upd ρ' d v) a' → Γ.St m' own' w' → K a' w') : wpOpIn (fw r) 0 P ops Q i K a w := by
  have hd' : d < n := by simpa [Nat.blt_eq] using hd
  -- the frame of the text's order
  let a0 : Act := { tmps := Array.ofFn (n := n) fun k => ρ k.1, defers := ds }
  have hf0 : FrameIs n ds ρ a0 := by
    refine ⟨by simp [a0], rfl, fun k => ?_⟩
    simp only [a0, Array.getD_eq_getD_getElem?, Array.getElem?_ofFn]
    split
    · rfl
    · rename_i hk; simp [hρ k (by omega)]
  have h1 := h (fun a' w' => ∃ v m' own', T v m' own' ∧ FrameIs n ds (upd ρ d v) a' ∧ Γ.St m' own' w') (fun v m' own' hT a' w' hfa hsa => ⟨v, m', own', hT, hfa, hsa⟩) a0 w hf0 hs
  have hput : ∀ v v', FrameIs n ds (upd ρ d v) (a0.put (some d) v') → v' = v := by
    intro v v' hx
    have := hx.slot d
    have h2 := (hf0.put hd v').slot d
    rw [h2] at this
    simpa [upd] using this
  have hev : ∀ x ∈ o.op.operands, a0.eval x = a.eval x := by
    intro x hx
    rw [hf0.eval, hf.eval]
    cases x with
    | tmp t =>
      exact (hag t (by
        unfold Oper.looksAt
        refine List.mem_append_left _ (List.mem_filterMap.2 ⟨.tmp t, by simpa using hx, rfl⟩))).symm
    | _ => rfl
  have hwant : Region.wanted o (yielded ops a0.tmps) = Region.wanted o (yielded ops a.tmps) := by
    unfold Region.wanted
    cases hg : o.guard with
    | none => rfl
    | some gw =>
      obtain ⟨g, want⟩ := gw
      have hy : yielded ops a0.tmps g = yielded ops a.tmps g := by
        unfold yielded
        cases ht : (ops[g]?).bind (·.dst) with
        | none => rfl
        | some t =>
          have e := hag t (by simp [Oper.looksAt, hg, ht])
          have e1 := hf0.slot t
          have e2 := hf.slot t
          rw [e, ← e1] at e2
          have hz : t < a0.tmps.size ↔ t < a.tmps.size := by rw [hf0.size, hf.size]
          simp only [Array.getD_eq_getD_getElem?] at e2
          simp only [Option.bind_some]
          by_cases hlt : t < a.tmps.size
          · rw [Array.getElem?_eq_getElem hlt, Array.getElem?_eq_getElem (hz.2 hlt)] at e2 ⊢
            simp only [Option.getD_some] at e2
            rw [e2]
          · rw [Array.getElem?_eq_none (Nat.le_of_not_lt hlt), Array.getElem?_eq_none (Nat.le_of_not_lt fun h => hlt (hz.1 h))]
      simp only [hy]
  have hns : ∀ cs b, o.op ≠ .select cs b := by
    intro cs b e
    simp [noSel, e] at hsel
  have hexec : execOp a0.eval o = execOp a.eval o := execOp_congr o hns hev
  have hnext : ∀ v' w', (∃ v m' own', T v m' own' ∧ FrameIs n ds (upd ρ d v) (a0.put o.dst v') ∧ Γ.St m' own' w') → K (a.put o.dst v') w' := by
    intro v' w' ⟨v, m', own', hT, hx, hy⟩
    rw [hdst] at hx ⊢
    obtain rfl := hput v v' hx
    exact hK _ _ _ _ _ hT (hf.put hd _) hy
  unfold wpOpIn
  simp only [hi]
  unfold wpListIn at h1
  by_cases hw : Region.wanted o (yielded ops a.tmps) = true
  · rw [if_pos hw]
    rw [hwant, if_pos hw] at h1
    refine ⟨fun _ _ => trivial, ?_⟩
    have h2 := h1.2
    have hdef' : ∀ c, o.op ≠ .defer c := by
      intro c e
      simp [noSel, e] at hsel
    rw [Oper.semAt_eq _ _ _ hdef', hexec] at h2
    rw [Oper.semAt_eq _ _ _ hdef']
    generalize (execOp a.eval o).run P w = res at h2 ⊢
    have noOut : ¬ LetsOut (sem P ⟨P, r, Γ, fun _ _ _ => False⟩ [.lp fun a' w' => ∃ v m' own', T v m' own' ∧ FrameIs n ds (upd ρ d v) a' ∧ Γ.St m' own' w']) := fun ⟨_, _, h⟩ => h
    cases res with
    | ok x w' =>
      cases x with
      | value v' => exact hnext v' w' h2
      | skip => exact hnext undef w' h2
      | defer dd =>
        obtain ⟨_, _, _, _, h3, _⟩ := h2
        have hx := h3.defers
        rw [hdst] at hx
        have := congrArg List.length hx
        simp [Act.put, a0] at this
      | enter f args =>
        refine ⟨by simp [fw], h2.2.mono ?_⟩
        intro e w'' he
        cases e with
        | returned u => exact hnext u w'' he
        | panicked c => exact he.elim
        | outgrown => exact (noOut he).elim
      | row row args =>
        refine ⟨by simp [fw], h2.2.mono ?_⟩
        intro u w'' he
        exact hnext u w'' he
      | round l f tmps assign body =>
        refine ⟨by simp [fw], h2.2.mono ?_⟩
        intro e w'' he
        cases e with
        | returned u => exact hnext u w'' he
        | panicked c => exact he.elim
        | outgrown => exact (noOut he).elim
      | _ => exact h2.elim
    | halt x w' => cases x <;> exact h2.elim
  · rw [if_neg hw]
    rw [hwant, if_neg hw] at h1
    exact ⟨fun _ _ => trivial, hnext _ _ h1.2⟩

/-- What a step yields, at any frame that agrees where the operation looks. -/
theorem PStep.at_ {ρ ρ' : Nat → Value} {o : Oper} {d : Nat} {v : Value} {a : Act} {w : World} {Q : Exit → Act → World → Prop} {K : Act → World → Prop} {i : Nat} (hi : ops[i]? = some o)
    (h : PStep P r Γ n ds m own ops ρ o d v) (hdst : o.dst = some d) (hd : Nat.blt d n = true) (hsel : noSel o = true) (hρ : ∀ k, n ≤ k → ρ k = undef) (hag : ∀ t ∈ o.looksAt ops, ρ' t = ρ t)
    (hf : FrameIs n ds ρ' a) (hs : Γ.St m own w) (hK : ∀ a' w', FrameIs n ds (upd ρ' d v) a' → Γ.St m own w' → K a' w') : wpOpIn (fw r) 0 P ops Q i K a w :=
  QStep.at_ (T := fun v' m' own' => v' = v ∧ m' = m ∧ own' = own) hi (fun K hk => h K (hk _ _ _ ⟨rfl, rfl, rfl⟩)) hdst hd hsel hρ hag hf hs (fun v' m' own' a' w' hT hf' hs' => by obtain ⟨rfl, rfl, rfl⟩ := hT; exact hK _ _ hf' hs')

theorem wr_split {Fin : (Nat → Value) → Prop} : ∀ (l : List Oper) (ρ : Nat → Value), WR P r Γ n ds m own ops Fin l ρ →
    ∃ (vs : Nat → Value) (rr : Nat → Nat → Value), rr 0 = ρ ∧ (∀ (i : Nat) o, l[i]? = some o → ∃ d, o.dst = some d ∧ Nat.blt d n = true ∧ PStep P r Γ n ds m own ops (rr i) o d (vs i) ∧ rr (i + 1) = upd (rr i) d (vs i)) ∧ Fin (rr l.length) := by
  intro l
  induction l with
  | nil => intro ρ h; exact ⟨fun _ => undef, fun _ => ρ, rfl, by simp, h⟩
  | cons o l ih =>
    intro ρ ⟨d, v, h1, h2, h3, h4⟩
    obtain ⟨vs, rr, g1, g2, g3⟩ := ih _ h4
    refine ⟨fun | 0 => v | i + 1 => vs i, fun | 0 => ρ | i + 1 => rr i, rfl, ?_, by simpa using g3⟩
    intro i o' hi
    cases i with
    | zero =>
      simp only [List.getElem?_cons_zero, Option.some.injEq] at hi
      subst hi
      exact ⟨d, h1, h2, h3, by simpa using g1⟩
    | succ i =>
      simp only [List.getElem?_cons_succ] at hi
      exact g2 i o' hi

def cnt (listed : Array Bool) : Nat → Nat
  | 0 => 0
  | k + 1 => cnt listed k + if listed.getD k false then 1 else 0
theorem cnt_le (listed : Array Bool) (k : Nat) : cnt listed k ≤ k := by
  induction k with
  | zero => exact Nat.le_refl _
  | succ k ih => simp only [cnt]; split <;> omega
theorem getD_set' {listed : Array Bool} {i j : Nat} (hi : i < listed.size) : (listed.setIfInBounds i true).getD j false = if i = j then true else listed.getD j false := by
  simp only [Array.getD_eq_getD_getElem?, Array.getElem?_setIfInBounds]
  by_cases h : i = j
  · subst h; simp [hi]
  · simp [h]
theorem cnt_set {listed : Array Bool} {i : Nat} (hi : i < listed.size) (hf : listed.getD i false = false) : ∀ k, cnt (listed.setIfInBounds i true) k = cnt listed k + if i < k then 1 else 0 := by
  intro k
  induction k with
  | zero => simp [cnt]
  | succ k ih =>
    simp only [cnt, ih, getD_set' hi]
    by_cases h1 : i = k
    · subst h1
      simp [hf]
    · rw [if_neg h1]
      have e : (if i < k + 1 then 1 else 0) = (if i < k then 1 else 0) := by
        by_cases h2 : i < k
        · rw [if_pos h2, if_pos (show i < k + 1 by omega)]
        · rw [if_neg h2, if_neg (show ¬ i < k + 1 by omega)]
      rw [e]
      omega
theorem cnt_full {listed : Array Bool} {k : Nat} (h : ∀ i, i < k → listed.getD i false = true) : cnt listed k = k := by
  induction k with
  | zero => rfl
  | succ k ih => simp only [cnt]; rw [ih fun i hi => h i (by omega), h k (by omega)]; rfl
theorem cnt_not {listed : Array Bool} {k : Nat} (h : cnt listed k < k) : ∃ i, i < k ∧ listed.getD i false = false ∧ ∀ j, j < i → listed.getD j false = true := by
  induction k with
  | zero => omega
  | succ k ih =>
    by_cases hk : cnt listed k < k
    · obtain ⟨i, h1, h2, h3⟩ := ih hk
      exact ⟨i, by omega, h2, h3⟩
    · have he : cnt listed k = k := by have := cnt_le listed k; omega
      have all : ∀ q, q ≤ k → cnt listed q = q → ∀ i, i < q → listed.getD i false = true := by
        intro q
        induction q with
        | zero => intro _ _ i hi; omega
        | succ q ihq =>
          intro hq heq i hi
          simp only [cnt] at heq
          have := cnt_le listed q
          by_cases hl : listed.getD q false = true
          · by_cases hiq : i = q
            · rw [hiq]; exact hl
            · refine ihq (by omega) ?_ i (by omega)
              rw [if_pos hl] at heq; omega
          · rw [if_neg hl] at heq; omega
      simp only [cnt, he] at h
      refine ⟨k, by omega, ?_, all k (Nat.le_refl _) he⟩
      cases hl : listed.getD k false with
      | false => rfl
      | true => rw [hl] at h; simp at h

theorem tail_any {F : Fence} {Q : Exit → Act → World → Prop} {np : Nat} (hseq : ∀ k, np ≤ k → k < ops.size → Region.ready .any ops (maskTo ops.size k) = [k]) (hend : Region.ready .any ops (maskTo ops.size ops.size) = []) :
    ∀ (q k : Nat), np ≤ k → k + q = ops.size → ∀ (fuel : Nat), q ≤ fuel → ∀ (a : Act) (w : World), wpListIn F 0 P ops Q (ops.toList.drop k) a w → wpAnyIn F 0 P .any ops Q fuel (maskTo ops.size k) a w := by
  intro q
  induction q with
  | zero =>
    intro k _ hk fuel _ a w h
    obtain rfl : k = ops.size := by omega
    rw [List.drop_eq_nil_of_le (by simp)] at h
    cases fuel with
    | zero => exact ⟨hend, h⟩
    | succ fuel => exact ⟨fun _ => h, by rw [hend]; simp⟩
  | succ q ih =>
    intro k hnp hk fuel hfuel a w h
    obtain ⟨fuel, rfl⟩ : ∃ f, fuel = f + 1 := ⟨fuel - 1, by omega⟩
    have hr := hseq k hnp (by omega)
    refine ⟨by rw [hr]; simp, ?_⟩
    rw [hr]
    intro i hi
    obtain rfl : i = k := by simpa using hi
    have hlt : i < ops.size := by omega
    have hset : (maskTo ops.size i).setIfInBounds i true = maskTo ops.size (i + 1) := by
      apply Array.ext_getElem?
      intro j
      simp only [maskTo, Array.getElem?_setIfInBounds, List.size_toArray, List.length_map, List.length_range, List.getElem?_toArray, List.getElem?_map]
      by_cases hj : i = j
      · subst hj
        simp [hlt]
      · rw [if_neg hj]
        by_cases hj2 : j < ops.size
        · simp [hj2]; omega
        · simp [List.getElem?_eq_none (show (List.range ops.size).length ≤ j by simp; omega)]
    have hdrop : ops.toList.drop i = ops[i] :: ops.toList.drop (i + 1) := by
      rw [List.drop_eq_getElem_cons (by simpa using hlt)]; simp
    rw [hdrop] at h
    unfold wpOpIn
    rw [Array.getElem?_eq_getElem hlt]
    simp only
    unfold wpListIn at h
    have hnext : ∀ a w, wpListIn F 0 P ops Q (ops.toList.drop (i + 1)) a w → wpAnyIn F 0 P .any ops Q fuel ((maskTo ops.size i).setIfInBounds i true) a w := by
      intro a w h'
      rw [hset]
      exact ih (i + 1) (by omega) (by omega) fuel (by omega) a w h'
    split
    · rename_i hw
      rw [if_pos hw] at h
      exact Oper.wpIn_mono hnext h
    · rename_i hw
      rw [if_neg hw] at h
      exact ⟨h.1, hnext _ _ h.2⟩

theorem WK.drawn {fin : Exit → Act → World → Prop} {ρ : Nat → Value} {ks : List Kt} {id : Nat} (np : Nat) (cl : Array (List Nat)) (hm : P.follows .mixedOrders = true) (hok : drawOk ops np cl = true)
    (h : WR P r Γ n ds m own ops (fun ρ' => WL P ⟨P, r, Γ, fin⟩ n ds m own ρ' ops (ops.toList.drop np) ks) (ops.toList.take np) ρ) :
    WK P ⟨P, r, Γ, fin⟩ n ds m own ρ .normal (.code (.region id ops true) :: ks) := by
  intro a w hf hs
  simp only [sem, Exit.then]
  refine wpIn_region_any hm ?_
  -- what the check says
  unfold drawOk at hok
  simp only [Bool.and_eq_true, List.all_eq_true, List.mem_range, beq_iff_eq] at hok
  obtain ⟨⟨⟨hnp, hops⟩, hseq⟩, hend⟩ := hok
  have hnp : np ≤ ops.size := by simpa using hnp
  have hseq' : ∀ k, np ≤ k → k < ops.size → Region.ready .any ops (maskTo ops.size k) = [k] := fun k h1 h2 => hseq k (by simp only [List.mem_range'_1]; omega)
  have key : ∀ i, i < ops.size → ∃ o, ops[i]? = some o ∧ (∀ e ∈ o.after, Region.binds .any e = true → e.on < i) ∧ (∀ j ∈ cl.getD i [], ∃ e ∈ o.after, Region.binds .any e = true ∧ (e.on = j ∨ j ∈ cl.getD e.on [])) ∧ noSel o = true ∧
      (i < np → (∀ j, j < np → i ≠ j → ((ops[j]?).bind (·.dst)) ≠ o.dst) ∧ ∀ t ∈ o.looksAt ops, ∀ j, j < np → ((ops[j]?).bind (·.dst)) = some t → j ∈ cl.getD i [] ∧ j < i) ∧ (np ≤ i → ∀ j, j < np → j ∈ cl.getD i []) := by
    intro i hi
    have h1 := hops i hi
    rw [Array.getElem?_eq_getElem hi] at h1 ⊢
    simp only [Bool.and_eq_true] at h1
    obtain ⟨⟨⟨h2, h3⟩, h4⟩, h5⟩ := h1
    refine ⟨ops[i], rfl, ?_, ?_, h4, ?_, ?_⟩
    · intro e he hb
      rw [Array.all_eq_true_iff_forall_mem] at h2
      have := h2 e he
      simpa [hb] using this
    · intro j hj
      rw [List.all_eq_true] at h3
      have := h3 j hj
      rw [← Array.any_toList, List.any_eq_true] at this
      obtain ⟨e, he, hx⟩ := this
      have he := Array.mem_toList_iff.1 he
      simp only [Bool.and_eq_true, Bool.or_eq_true, beq_iff_eq, List.contains_iff_mem] at hx
      exact ⟨e, he, hx.1, hx.2⟩
    · intro hlt
      rw [if_pos hlt] at h5
      simp only [Bool.and_eq_true, List.all_eq_true, List.mem_range, Bool.or_eq_true, beq_iff_eq, bne_iff_ne, ne_eq, List.contains_iff_mem, Nat.blt_eq] at h5
      refine ⟨fun j hj hne => (h5.1 j hj).resolve_left hne, fun t ht j hj he => ?_⟩
      exact (h5.2 t ht j hj).resolve_left (fun hn => hn he)
    · intro hge
      rw [if_neg (by omega)] at h5
      simp only [List.all_eq_true, List.mem_range, List.contains_iff_mem] at h5
      exact h5
  obtain ⟨vs, rr, g1, g2, g3⟩ := wr_split _ _ h
  have hlen : (ops.toList.take np).length = np := by simp; omega
  rw [hlen] at g3
  have hop : ∀ i, i < np → ∃ o d, ops[i]? = some o ∧ o.dst = some d ∧ Nat.blt d n = true ∧ PStep P r Γ n ds m own ops (rr i) o d (vs i) ∧ rr (i + 1) = upd (rr i) d (vs i) := by
    intro i hi
    have hi' : i < ops.size := by omega
    obtain ⟨d, h1, h2, h3, h4⟩ := g2 i ops[i] (by rw [List.getElem?_take, if_pos hi]; simp [hi'])
    exact ⟨ops[i], d, Array.getElem?_eq_getElem hi', h1, h2, h3, h4⟩
  have hund : ∀ k, n ≤ k → ρ k = undef := by
    intro k hk
    rw [← hf.slot k, Array.getD_eq_getD_getElem?, Array.getElem?_eq_none (by rw [hf.size]; exact hk)]
    rfl
  -- slots of the frames of the text's order
  have slot_no : ∀ i, i ≤ np → ∀ t, (∀ j, j < i → ((ops[j]?).bind (·.dst)) ≠ some t) → rr i t = ρ t := by
    intro i
    induction i with
    | zero => intro _ t _; rw [g1]
    | succ i ih =>
      intro hi t ht
      obtain ⟨o, d, h1, h2, h3, h4, h5⟩ := hop i (by omega)
      have hne : t ≠ d := by
        rintro rfl
        exact ht i (by omega) (by rw [h1]; exact h2)
      rw [h5]
      simp only [upd]
      rw [show Nat.beq t d = false from by
        cases hb : Nat.beq t d with
        | true => exact absurd (Nat.eq_of_beq_eq_true hb) hne
        | false => rfl]
      exact ih (by omega) t fun j hj => ht j (by omega)
  have slot_is : ∀ i, i ≤ np → ∀ j, j < i → ∀ t, ((ops[j]?).bind (·.dst)) = some t → rr i t = vs j := by
    intro i
    induction i with
    | zero => intro _ j hj; omega
    | succ i ih =>
      intro hi j hj t ht
      obtain ⟨o, d, h1, h2, h3, h4, h5⟩ := hop i (by omega)
      rw [h5]
      by_cases hij : j = i
      · subst hij
        rw [h1] at ht
        have : t = d := by simpa [h2] using ht.symm
        subst this
        simp [upd]
      · have hne : t ≠ d := by
          rintro rfl
          obtain ⟨o', ho', _, _, _, hu, _⟩ := key i (by omega)
          rw [h1] at ho'
          obtain rfl := Option.some.inj ho'
          exact (hu (by omega)).1 j (by omega) (fun e => hij e.symm) (by rw [ht, h2])
        simp only [upd]
        rw [show Nat.beq t d = false from by
          cases hb : Nat.beq t d with
          | true => exact absurd (Nat.eq_of_beq_eq_true hb) hne
          | false => rfl]
        exact ih (by omega) j (by omega) t ht
  -- all orders
  have main : ∀ (fuel : Nat) (listed : Array Bool) (ρ' : Nat → Value) (a : Act) (w : World), listed.size = ops.size → fuel + cnt listed ops.size = ops.size →
      (∀ i, np ≤ i → listed.getD i false = false) → (∀ i o, ops[i]? = some o → listed.getD i false = true → ∀ e ∈ o.after, Region.binds .any e = true → listed.getD e.on false = true) →
      (∀ j, j < np → listed.getD j false = true → ∀ t, ((ops[j]?).bind (·.dst)) = some t → ρ' t = vs j) →
      (∀ t, (∀ j, j < np → listed.getD j false = true → ((ops[j]?).bind (·.dst)) ≠ some t) → ρ' t = ρ t) →
      FrameIs n ds ρ' a → Γ.St m own w → wpAnyIn (fw r) 0 P .any ops (sem P ⟨P, r, Γ, fin⟩ ks) fuel listed a w := by
    intro fuel
    induction fuel with
    | zero =>
      intro listed ρ' a w hsz hcnt htail hdown hvs hno hf hs
      have hall : ∀ i, i < ops.size → listed.getD i false = true := by
        intro i hi
        rcases Nat.lt_or_ge (cnt listed ops.size) ops.size with hlt | hge
        · omega
        · by_cases hl : listed.getD i false = true
          · exact hl
          · exfalso
            have hfull : ∀ q, q ≤ ops.size → i < q → cnt listed q < q := by
              intro q
              induction q with
              | zero => intro _ h; omega
              | succ q ihq =>
                intro hq hiq
                simp only [cnt]
                have := cnt_le listed q
                by_cases he : i = q
                · subst he
                  rw [if_neg hl]; omega
                · have := ihq (by omega) (by omega)
                  split <;> omega
            have := hfull ops.size (Nat.le_refl _) hi
            omega
      have hnpN : np = ops.size := by
        rcases Nat.lt_or_ge np ops.size with hlt | hge
        · have h1 := hall np hlt
          rw [htail np (Nat.le_refl _)] at h1; cases h1
        · omega
      have hρ : ρ' = rr np := by
        funext t
        by_cases hx : ∃ j, j < np ∧ ((ops[j]?).bind (·.dst)) = some t
        · obtain ⟨j, hj, ht⟩ := hx
          rw [hvs j hj (hall j (by omega)) t ht, slot_is np (Nat.le_refl _) j hj t ht]
        · rw [hno t fun j hj _ ht => hx ⟨j, hj, ht⟩, slot_no np (Nat.le_refl _) t fun j hj ht => hx ⟨j, hj, ht⟩]
      have hlm : listed = maskTo ops.size ops.size := by
        apply Array.ext
        · simp [maskTo, hsz]
        · intro i h1 h2
          have := hall i (by omega)
          rw [Array.getD_eq_getD_getElem?, Array.getElem?_eq_getElem h1] at this
          simp only [Option.getD_some] at this
          rw [this]
          simp [maskTo]; omega
      rw [hlm]
      rw [hnpN] at hρ g3
      rw [hρ] at hf
      have h1 := g3 a w hf hs
      rw [List.drop_eq_nil_of_le (by simp)] at h1
      exact ⟨hend, h1⟩
    | succ fuel ih =>
      intro listed ρ' a w hsz hcnt htail hdown hvs hno hf hs
      obtain ⟨i0, hi0, hl0, hbelow⟩ := cnt_not (listed := listed) (k := ops.size) (by omega)
      have hready0 : i0 ∈ Region.ready .any ops listed := by
        rw [mem_ready]
        obtain ⟨o, ho, he, _⟩ := key i0 hi0
        refine ⟨?_, o, ho, fun e hem hb => hbelow e.on (he e hem hb)⟩
        rw [Array.getD_eq_getD_getElem?, Array.getElem?_eq_getElem (by omega)] at hl0 ⊢
        simpa using hl0
      refine ⟨fun hnil => absurd (hnil ▸ hready0) (by simp), ?_⟩
      intro i hi
      rw [mem_ready] at hi
      obtain ⟨hli, o, ho, hdeps⟩ := hi
      have hlt : i < ops.size := (Array.getElem?_eq_some_iff.1 ho).1
      have hli' : listed.getD i false = false := by
        rw [Array.getD_eq_getD_getElem?, Array.getElem?_eq_getElem (by omega)] at hli ⊢
        simpa using hli
      -- what is behind an edge is listed, whole
      have hclos : ∀ q, q < ops.size → (∀ oq, ops[q]? = some oq → ∀ e ∈ oq.after, Region.binds .any e = true → listed.getD e.on false = true) → ∀ j ∈ cl.getD q [], listed.getD j false = true := by
        intro q
        induction q using Nat.strongRecOn with
        | _ q ihq =>
          intro hq hd j hj
          obtain ⟨oq, hoq, hlow, hcl, _⟩ := key q hq
          obtain ⟨e, he, hb, hej⟩ := hcl j hj
          have hle := hd oq hoq e he hb
          rcases hej with rfl | hej
          · exact hle
          · have helt := hlow e he hb
            exact ihq e.on helt (by omega) (fun oe hoe e' he' hb' => hdown e.on oe hoe hle e' he' hb') j hej
      have hanc := hclos i hlt (fun oq hoq e he hb => by
        rw [ho] at hoq; obtain rfl := Option.some.inj hoq; exact hdeps e he hb)
      obtain ⟨o', ho', hlow, _, hsel, hpure, htailc⟩ := key i hlt
      rw [ho] at ho'
      obtain rfl := Option.some.inj ho'
      by_cases hip : i < np
      · obtain ⟨o2, d, h1, h2, h3, h4, h5⟩ := hop i hip
        rw [ho] at h1
        obtain rfl := Option.some.inj h1
        obtain ⟨huniq, hlook⟩ := hpure hip
        refine PStep.at_ ho h4 h2 h3 hsel ?_ ?_ hf hs ?_
        · intro k hk
          rw [slot_no i (by omega) k ?_]
          · exact hund k hk
          · intro j hj hjt
            obtain ⟨oj, dj, e1, e2, e3, _, _⟩ := hop j (by omega)
            rw [e1] at hjt
            have : dj = k := by simpa [e2] using hjt
            rw [Nat.blt_eq, this] at e3
            exact absurd e3 (Nat.not_lt.2 hk)
        · intro t ht
          by_cases hx : ∃ j, j < np ∧ ((ops[j]?).bind (·.dst)) = some t
          · obtain ⟨j, hj, hjt⟩ := hx
            obtain ⟨q1, q2⟩ := hlook t ht j hj hjt
            rw [hvs j hj (hanc j q1) t hjt, slot_is i (by omega) j q2 t hjt]
          · rw [hno t fun j hj _ hjt => hx ⟨j, hj, hjt⟩, slot_no i (by omega) t fun j hj hjt => hx ⟨j, by omega, hjt⟩]
        · intro a' w' hf' hs'
          have hset : ∀ j, (listed.setIfInBounds i true).getD j false = if i = j then true else listed.getD j false := fun j => getD_set' (by omega)
          refine ih (listed.setIfInBounds i true) (upd ρ' d (vs i)) a' w' (by simpa using hsz) ?_ ?_ ?_ ?_ ?_ hf' hs'
          · rw [cnt_set (by omega) hli', if_pos hlt]; omega
          · intro j hj
            rw [hset, if_neg (by omega)]; exact htail j hj
          · intro q oq hoq hlq e he hb
            rw [hset] at hlq ⊢
            by_cases hiq : i = q
            · subst hiq
              rw [ho] at hoq
              obtain rfl := Option.some.inj hoq
              split
              · rfl
              · exact hdeps e he hb
            · rw [if_neg hiq] at hlq
              split
              · rfl
              · exact hdown q oq hoq hlq e he hb
          · intro j hj hlj t hjt
            rw [hset] at hlj
            by_cases hij : i = j
            · subst hij
              rw [ho] at hjt
              have : d = t := by simpa [h2] using hjt
              subst this
              simp [upd]
            · rw [if_neg hij] at hlj
              have hne : t ≠ d := by
                rintro rfl
                exact huniq j hj hij (by rw [hjt, h2])
              simp only [upd]
              rw [show Nat.beq t d = false from by
                cases hb : Nat.beq t d with
                | true => exact absurd (Nat.eq_of_beq_eq_true hb) hne
                | false => rfl]
              exact hvs j hj hlj t hjt
          · intro t ht
            have hne : t ≠ d := by
              rintro rfl
              exact ht i hip (by rw [hset, if_pos rfl]) (by rw [ho]; exact h2)
            simp only [upd]
            rw [show Nat.beq t d = false from by
              cases hb : Nat.beq t d with
              | true => exact absurd (Nat.eq_of_beq_eq_true hb) hne
              | false => rfl]
            refine hno t fun j hj hlj => ht j hj ?_
            rw [hset]
            split
            · rfl
            · exact hlj
      · -- the tail's first: all that computes is done
        have hall : ∀ j, j < np → listed.getD j false = true := fun j hj => hanc j (htailc (by omega) j hj)
        have hρ : ρ' = rr np := by
          funext t
          by_cases hx : ∃ j, j < np ∧ ((ops[j]?).bind (·.dst)) = some t
          · obtain ⟨j, hj, ht⟩ := hx
            rw [hvs j hj (hall j hj) t ht, slot_is np (Nat.le_refl _) j hj t ht]
          · rw [hno t fun j hj _ ht => hx ⟨j, hj, ht⟩, slot_no np (Nat.le_refl _) t fun j hj ht => hx ⟨j, hj, ht⟩]
        have hlm : listed = maskTo ops.size np := by
          apply Array.ext
          · simp [maskTo, hsz]
          · intro q h1 h2
            have e1 : listed[q] = listed.getD q false := by rw [Array.getD_eq_getD_getElem?, Array.getElem?_eq_getElem h1]; rfl
            rw [e1]
            by_cases hq : q < np
            · rw [hall q hq]; simp [maskTo, hq]
            · rw [htail q (by omega)]; simp [maskTo]; omega
        have hcn : cnt listed ops.size = np := by
          have : ∀ q, q ≤ ops.size → cnt listed q = min q np := by
            intro q
            induction q with
            | zero => intro _; simp [cnt]
            | succ q ihq =>
              intro hq
              simp only [cnt]
              rw [ihq (by omega)]
              by_cases hqn : q < np
              · rw [hall q hqn]; simp; omega
              · rw [htail q (by omega)]; simp; omega
          rw [this _ (Nat.le_refl _)]; omega
        have hfin := tail_any (P := P) (F := fw r) (Q := sem P ⟨P, r, Γ, fin⟩ ks) hseq' hend (ops.size - np) np (Nat.le_refl _) (by omega) (fuel + 1) (by omega) a w (by rw [hρ] at hf; exact g3 a w hf hs)
        rw [← hlm] at hfin
        exact hfin.2 i (by rw [mem_ready]; exact ⟨hli, o, ho, hdeps⟩)
  have hrep : ∀ i, (Array.replicate ops.size false).getD i false = false := by
    intro i
    simp only [Array.getD_eq_getD_getElem?, Array.getElem?_replicate]
    split <;> rfl
  refine main ops.size (Array.replicate ops.size false) ρ a _ (by simp) ?_ (fun i _ => hrep i) ?_ ?_ (fun t _ => rfl) hf (hs.drewn _)
  · have : ∀ k, cnt (Array.replicate ops.size false) k = 0 := by
      intro k
      induction k with
      | zero => rfl
      | succ k ih => simp only [cnt, ih, hrep]; rfl
    rw [this]; rfl
  · intro i o _ hl; rw [hrep] at hl; cases hl
  · intro j _ hl; rw [hrep] at hl; cases hl

/-! ### One operation of those that change memory may come ahead of some that only move a slot -/
def drawOkQ (ops : Array Oper) (np : Nat) (cl : Array (List Nat)) (late : List Nat) : Bool :=
  Nat.blt np ops.size &&
  ((List.range ops.size).all fun i => match ops[i]? with
    | some o =>
      o.after.all (fun e => !(Region.binds .any e) || Nat.blt e.on i) &&
      (cl.getD i []).all (fun j => o.after.any fun e => Region.binds .any e && (e.on == j || (cl.getD e.on []).contains j)) &&
      noSel o &&
      (if i ≤ np then (List.range (np + 1)).all (fun j => i == j || ((ops[j]?).bind (·.dst)) != o.dst) &&
          ((o.looksAt ops).all fun t => (List.range (np + 1)).all fun j => ((ops[j]?).bind (·.dst)) != some t || ((cl.getD i []).contains j && Nat.blt j i)) &&
          (i != np || (List.range np).all fun j => late.contains j || (cl.getD i []).contains j)
        else (List.range (np + 1)).all fun j => (cl.getD i []).contains j)
    | none => false) &&
  ((List.range' (np + 1) (ops.size - (np + 1))).all fun k => Region.ready .any ops (maskTo ops.size k) == [k]) &&
  Region.ready .any ops (maskTo ops.size ops.size) == []
def WRL (P : Program) (r : Option Nat) (Γ : Ent) (n : Nat) (ds : List Deferred) (m : Imm) (own : Own) (ops : Array Oper) (late : List Nat) (Fin : (Nat → Value) → Prop) : Nat → List Oper → (Nat → Value) → Prop
  | _, [], ρ => Fin ρ
  | i, o :: l, ρ => ∃ d v, o.dst = some d ∧ Nat.blt d n = true ∧ PStep P r Γ n ds m own ops ρ o d v ∧ (late.contains i = true → ∀ blk, PStep P r Γ n ds m (blk :: own) ops ρ o d v) ∧ WRL P r Γ n ds m own ops late Fin (i + 1) l (upd ρ d v)
theorem wrl_split {late : List Nat} {Fin : (Nat → Value) → Prop} : ∀ (l : List Oper) (q : Nat) (ρ : Nat → Value), WRL P r Γ n ds m own ops late Fin q l ρ →
    ∃ (vs : Nat → Value) (rr : Nat → Nat → Value), rr 0 = ρ ∧ (∀ (i : Nat) o, l[i]? = some o → ∃ d, o.dst = some d ∧ Nat.blt d n = true ∧ PStep P r Γ n ds m own ops (rr i) o d (vs i) ∧ (late.contains (q + i) = true → ∀ blk, PStep P r Γ n ds m (blk :: own) ops (rr i) o d (vs i)) ∧ rr (i + 1) = upd (rr i) d (vs i)) ∧ Fin (rr l.length) := by
  intro l
  induction l with
  | nil => intro q ρ h; exact ⟨fun _ => undef, fun _ => ρ, rfl, by simp, h⟩
  | cons o l ih =>
    intro q ρ ⟨d, v, h1, h2, h3, h5, h4⟩
    obtain ⟨vs, rr, g1, g2, g3⟩ := ih _ _ h4
    refine ⟨fun | 0 => v | i + 1 => vs i, fun | 0 => ρ | i + 1 => rr i, rfl, ?_, by simpa using g3⟩
    intro i o' hi
    cases i with
    | zero =>
      simp only [List.getElem?_cons_zero, Option.some.injEq] at hi
      subst hi
      exact ⟨d, h1, h2, h3, h5, by simpa using g1⟩
    | succ i =>
      simp only [List.getElem?_cons_succ] at hi
      obtain ⟨d', e1, e2, e3, e4, e5⟩ := g2 i o' hi
      exact ⟨d', e1, e2, e3, by rw [Nat.add_right_comm] at e4; exact e4, e5⟩
theorem beq_ne {t d : Nat} (h : t ≠ d) : Nat.beq t d = false := by
  cases hb : Nat.beq t d with
  | true => exact absurd (Nat.eq_of_beq_eq_true hb) h
  | false => rfl
theorem upd_ne {ρ : Nat → Value} {t d : Nat} {v : Value} (h : t ≠ d) : upd ρ d v t = ρ t := by simp only [upd, beq_ne h]; rfl
theorem upd_eq {ρ : Nat → Value} {d : Nat} {v : Value} : upd ρ d v d = v := by simp [upd]
theorem all_of_cnt {listed : Array Bool} {N : Nat} (h : N ≤ cnt listed N) : ∀ i, i < N → listed.getD i false = true := by
  intro i hi
  by_cases hl : listed.getD i false = true
  · exact hl
  · exfalso
    have hfull : ∀ q, i < q → cnt listed q < q := by
      intro q
      induction q with
      | zero => intro h; omega
      | succ q ihq =>
        intro hiq
        simp only [cnt]
        have := cnt_le listed q
        by_cases he : i = q
        · subst he
          rw [if_neg hl]; omega
        · have := ihq (by omega)
          split <;> omega
    have := hfull N hi
    omega

theorem WK.drawnQ {fin : Exit → Act → World → Prop} {ρ : Nat → Value} {ks : List Kt} {id : Nat} (np : Nat) (cl : Array (List Nat)) (late : List Nat) {oq : Oper} {dq : Nat} (hoq : ops[np]? = some oq) (hdq : oq.dst = some dq) (hdn : Nat.blt dq n = true)
    (hm : P.follows .mixedOrders = true) (hok : drawOkQ ops np cl late = true)
    (h : WRL P r Γ n ds m own ops late (fun ρ' => ∃ T, QStep P r Γ n ds m own ops ρ' oq dq T ∧ ∀ v m' own', T v m' own' → (m' = m ∧ ∃ blk, own' = blk :: own) ∧ WL P ⟨P, r, Γ, fin⟩ n ds m' own' (upd ρ' dq v) ops (ops.toList.drop (np + 1)) ks) 0 (ops.toList.take np) ρ) :
    WK P ⟨P, r, Γ, fin⟩ n ds m own ρ .normal (.code (.region id ops true) :: ks) := by
  intro a w hf hs
  simp only [sem, Exit.then]
  refine wpIn_region_any hm ?_
  unfold drawOkQ at hok
  simp only [Bool.and_eq_true, List.all_eq_true, List.mem_range, beq_iff_eq] at hok
  obtain ⟨⟨⟨hnp, hops⟩, hseq⟩, hend⟩ := hok
  have hnp : np < ops.size := by simpa using hnp
  have hseq' : ∀ k, np + 1 ≤ k → k < ops.size → Region.ready .any ops (maskTo ops.size k) = [k] := fun k h1 h2 => hseq k (by simp only [List.mem_range'_1]; omega)
  have key : ∀ i, i < ops.size → ∃ o, ops[i]? = some o ∧ (∀ e ∈ o.after, Region.binds .any e = true → e.on < i) ∧ (∀ j ∈ cl.getD i [], ∃ e ∈ o.after, Region.binds .any e = true ∧ (e.on = j ∨ j ∈ cl.getD e.on [])) ∧ noSel o = true ∧
      (i ≤ np → (∀ j, j ≤ np → i ≠ j → ((ops[j]?).bind (·.dst)) ≠ o.dst) ∧ (∀ t ∈ o.looksAt ops, ∀ j, j ≤ np → ((ops[j]?).bind (·.dst)) = some t → j ∈ cl.getD i [] ∧ j < i) ∧ (i = np → ∀ j, j < np → late.contains j = true ∨ j ∈ cl.getD i [])) ∧ (np < i → ∀ j, j ≤ np → j ∈ cl.getD i []) := by
    intro i hi
    have h1 := hops i hi
    rw [Array.getElem?_eq_getElem hi] at h1 ⊢
    simp only [Bool.and_eq_true] at h1
    obtain ⟨⟨⟨h2, h3⟩, h4⟩, h5⟩ := h1
    refine ⟨ops[i], rfl, ?_, ?_, h4, ?_, ?_⟩
    · intro e he hb
      rw [Array.all_eq_true_iff_forall_mem] at h2
      have := h2 e he
      simpa [hb] using this
    · intro j hj
      rw [List.all_eq_true] at h3
      have := h3 j hj
      rw [← Array.any_toList, List.any_eq_true] at this
      obtain ⟨e, he, hx⟩ := this
      have he := Array.mem_toList_iff.1 he
      simp only [Bool.and_eq_true, Bool.or_eq_true, beq_iff_eq, List.contains_iff_mem] at hx
      exact ⟨e, he, hx.1, hx.2⟩
    · intro hlt
      rw [if_pos hlt] at h5
      simp only [Bool.and_eq_true, List.all_eq_true, List.mem_range, Bool.or_eq_true, beq_iff_eq, bne_iff_ne, ne_eq, List.contains_iff_mem, Nat.blt_eq] at h5
      refine ⟨fun j hj hne => (h5.1.1 j (by omega)).resolve_left hne, fun t ht j hj he => ?_, fun hi j hj => ?_⟩
      · exact (h5.1.2 t ht j (by omega)).resolve_left (fun hn => hn he)
      · rcases h5.2 with h7 | h7
        · exact absurd hi h7
        · rcases h7 j hj with h8 | h8
          · exact .inl (by simpa using h8)
          · exact .inr h8
    · intro hge
      rw [if_neg (by omega)] at h5
      simp only [List.all_eq_true, List.mem_range, List.contains_iff_mem] at h5
      exact fun j hj => h5 j (by omega)
  obtain ⟨vs, rr, g1, g2, g3⟩ := wrl_split _ _ _ h
  have hlen : (ops.toList.take np).length = np := by simp; omega
  rw [hlen] at g3
  have hop : ∀ i, i < np → ∃ o d, ops[i]? = some o ∧ o.dst = some d ∧ Nat.blt d n = true ∧ PStep P r Γ n ds m own ops (rr i) o d (vs i) ∧ (late.contains i = true → ∀ blk, PStep P r Γ n ds m (blk :: own) ops (rr i) o d (vs i)) ∧ rr (i + 1) = upd (rr i) d (vs i) := by
    intro i hi
    have hi' : i < ops.size := by omega
    obtain ⟨d, h1, h2, h3, h5, h4⟩ := g2 i ops[i] (by rw [List.getElem?_take, if_pos hi]; simp [hi'])
    exact ⟨ops[i], d, Array.getElem?_eq_getElem hi', h1, h2, h3, by simpa using h5, h4⟩
  have hund : ∀ k, n ≤ k → ρ k = undef := by
    intro k hk
    rw [← hf.slot k, Array.getD_eq_getD_getElem?, Array.getElem?_eq_none (by rw [hf.size]; exact hk)]
    rfl
  have slot_no : ∀ i, i ≤ np → ∀ t, (∀ j, j < i → ((ops[j]?).bind (·.dst)) ≠ some t) → rr i t = ρ t := by
    intro i
    induction i with
    | zero => intro _ t _; rw [g1]
    | succ i ih =>
      intro hi t ht
      obtain ⟨o, d, h1, h2, h3, h4, _, h5⟩ := hop i (by omega)
      have hne : t ≠ d := by
        rintro rfl
        exact ht i (by omega) (by rw [h1]; exact h2)
      rw [h5, upd_ne hne]
      exact ih (by omega) t fun j hj => ht j (by omega)
  have slot_is : ∀ i, i ≤ np → ∀ j, j < i → ∀ t, ((ops[j]?).bind (·.dst)) = some t → rr i t = vs j := by
    intro i
    induction i with
    | zero => intro _ j hj; omega
    | succ i ih =>
      intro hi j hj t ht
      obtain ⟨o, d, h1, h2, h3, h4, _, h5⟩ := hop i (by omega)
      rw [h5]
      by_cases hij : j = i
      · subst hij
        rw [h1] at ht
        have : t = d := by simpa [h2] using ht.symm
        subst this
        exact upd_eq
      · have hne : t ≠ d := by
          rintro rfl
          obtain ⟨o', ho', _, _, _, hu, _⟩ := key i (by omega)
          rw [h1] at ho'
          obtain rfl := Option.some.inj ho'
          exact (hu (by omega)).1 j (by omega) (fun e => hij e.symm) (by rw [ht, h2])
        rw [upd_ne hne]
        exact ih (by omega) j (by omega) t ht
  have hrru : ∀ i, i ≤ np → ∀ k, n ≤ k → rr i k = undef := by
    intro i hi k hk
    rw [slot_no i hi k ?_]
    · exact hund k hk
    · intro j hj hjt
      obtain ⟨oj, dj, e1, e2, e3, _⟩ := hop j (by omega)
      rw [e1] at hjt
      have : dj = k := by simpa [e2] using hjt
      rw [Nat.blt_eq, this] at e3
      exact absurd e3 (Nat.not_lt.2 hk)
  have hdqj : ∀ j, j < np → ((ops[j]?).bind (·.dst)) ≠ some dq := by
    intro j hj e
    obtain ⟨o', ho', _, _, _, hu, _⟩ := key np hnp
    rw [hoq] at ho'
    obtain rfl := Option.some.inj ho'
    exact (hu (Nat.le_refl _)).1 j (by omega) (by omega) (by rw [e, hdq])
  obtain ⟨T, hQ, hrest⟩ := g3
  -- what is behind an edge is listed, whole
  have clos : ∀ listed : Array Bool, (∀ i o, ops[i]? = some o → listed.getD i false = true → ∀ e ∈ o.after, Region.binds .any e = true → listed.getD e.on false = true) →
      ∀ q, q < ops.size → (∀ oq, ops[q]? = some oq → ∀ e ∈ oq.after, Region.binds .any e = true → listed.getD e.on false = true) → ∀ j ∈ cl.getD q [], listed.getD j false = true := by
    intro listed hdown q
    induction q using Nat.strongRecOn with
    | _ q ihq =>
      intro hq hd j hj
      obtain ⟨oq, hoq, hlow, hcl, _⟩ := key q hq
      obtain ⟨e, he, hb, hej⟩ := hcl j hj
      have hle := hd oq hoq e he hb
      rcases hej with rfl | hej
      · exact hle
      · have helt := hlow e he hb
        exact ihq e.on helt (by omega) (fun oe hoe e' he' hb' => hdown e.on oe hoe hle e' he' hb') j hej
  have someReady : ∀ listed : Array Bool, listed.size = ops.size → cnt listed ops.size < ops.size → Region.ready .any ops listed ≠ [] := by
    intro listed hsz hc hnil
    obtain ⟨i0, hi0, hl0, hbelow⟩ := cnt_not (listed := listed) (k := ops.size) hc
    have hready0 : i0 ∈ Region.ready .any ops listed := by
      rw [mem_ready]
      obtain ⟨o, ho, he, _⟩ := key i0 hi0
      refine ⟨?_, o, ho, fun e hem hb => hbelow e.on (he e hem hb)⟩
      rw [Array.getD_eq_getD_getElem?, Array.getElem?_eq_getElem (by omega)] at hl0 ⊢
      simpa using hl0
    rw [hnil] at hready0
    cases hready0
  have unl : ∀ (listed : Array Bool) (i : Nat), listed.size = ops.size → i < ops.size → listed.getD i true = false → listed.getD i false = false := by
    intro listed i hsz hlt hli
    rw [Array.getD_eq_getD_getElem?, Array.getElem?_eq_getElem (by omega)] at hli ⊢
    simpa using hli
  -- behind q
  have main1 : ∀ (v : Value) (m' : Imm) (own' : Own), T v m' own' → ∀ (fuel : Nat) (listed : Array Bool) (ρ' : Nat → Value) (a : Act) (w : World), listed.size = ops.size → fuel + cnt listed ops.size = ops.size →
      (∀ i, np < i → listed.getD i false = false) → listed.getD np false = true → (∀ i, i < np → late.contains i = false → listed.getD i false = true) →
      (∀ i o, ops[i]? = some o → listed.getD i false = true → ∀ e ∈ o.after, Region.binds .any e = true → listed.getD e.on false = true) →
      (∀ j, j < np → listed.getD j false = true → ∀ t, ((ops[j]?).bind (·.dst)) = some t → ρ' t = vs j) →
      (∀ t, (∀ j, j < np → listed.getD j false = true → ((ops[j]?).bind (·.dst)) ≠ some t) → ρ' t = upd ρ dq v t) →
      FrameIs n ds ρ' a → Γ.St m' own' w → wpAnyIn (fw r) 0 P .any ops (sem P ⟨P, r, Γ, fin⟩ ks) fuel listed a w := by
    intro v m' own' hT fuel
    induction fuel with
    | zero =>
      intro listed ρ' a w hsz hcnt htail hnpl hnl hdown hvs hno hf hs
      have hall : ∀ i, i < ops.size → listed.getD i false = true := all_of_cnt (by omega)
      have hnpN : np + 1 = ops.size := by
        rcases Nat.lt_or_ge (np + 1) ops.size with hlt | hge
        · have h1 := hall (np + 1) hlt
          rw [htail (np + 1) (by omega)] at h1; cases h1
        · omega
      have hρ : ρ' = upd (rr np) dq v := by
        funext t
        by_cases hx : ∃ j, j < np ∧ ((ops[j]?).bind (·.dst)) = some t
        · obtain ⟨j, hj, ht⟩ := hx
          have : t ≠ dq := by rintro rfl; exact hdqj j hj ht
          rw [hvs j hj (hall j (by omega)) t ht, upd_ne this, slot_is np (Nat.le_refl _) j hj t ht]
        · rw [hno t fun j hj _ ht => hx ⟨j, hj, ht⟩]
          by_cases htd : t = dq
          · subst htd; rw [upd_eq, upd_eq]
          · rw [upd_ne htd, upd_ne htd, slot_no np (Nat.le_refl _) t fun j hj ht => hx ⟨j, hj, ht⟩]
      have hlm : listed = maskTo ops.size ops.size := by
        apply Array.ext
        · simp [maskTo, hsz]
        · intro i h1 h2
          have := hall i (by omega)
          rw [Array.getD_eq_getD_getElem?, Array.getElem?_eq_getElem h1] at this
          simp only [Option.getD_some] at this
          rw [this]
          simp [maskTo]; omega
      rw [hlm]
      rw [hρ] at hf
      have h1 := (hrest v m' own' hT).2 a w hf hs
      rw [List.drop_eq_nil_of_le (by simp; omega)] at h1
      exact ⟨hend, h1⟩
    | succ fuel ih =>
      intro listed ρ' a w hsz hcnt htail hnpl hnl hdown hvs hno hf hs
      refine ⟨fun hnil => absurd hnil (someReady listed hsz (by omega)), ?_⟩
      intro i hi
      rw [mem_ready] at hi
      obtain ⟨hli, o, ho, hdeps⟩ := hi
      have hlt : i < ops.size := (Array.getElem?_eq_some_iff.1 ho).1
      have hli' : listed.getD i false = false := unl listed i hsz hlt hli
      have hanc := clos listed hdown i hlt (fun oq hoq e he hb => by
        rw [ho] at hoq; obtain rfl := Option.some.inj hoq; exact hdeps e he hb)
      obtain ⟨o', ho', hlow, _, hsel, hpure, htailc⟩ := key i hlt
      rw [ho] at ho'
      obtain rfl := Option.some.inj ho'
      by_cases hip : i < np
      · obtain ⟨o2, d, h1, h2, h3, h4, h6, h5⟩ := hop i hip
        rw [ho] at h1
        obtain rfl := Option.some.inj h1
        have hil : late.contains i = true := by
          cases hb : late.contains i with
          | true => rfl
          | false => have := hnl i hip hb; rw [hli'] at this; cases this
        obtain ⟨huniq, hlook, _⟩ := hpure (by omega)
        obtain ⟨rfl, blk0, rfl⟩ := (hrest v m' own' hT).1
        refine PStep.at_ ho (h6 hil blk0) h2 h3 hsel (hrru i (by omega)) ?_ hf hs ?_
        · intro t ht
          by_cases hx : ∃ j, j < np ∧ ((ops[j]?).bind (·.dst)) = some t
          · obtain ⟨j, hj, hjt⟩ := hx
            obtain ⟨q1, q2⟩ := hlook t ht j (by omega) hjt
            rw [hvs j hj (hanc j q1) t hjt, slot_is i (by omega) j q2 t hjt]
          · have htd : t ≠ dq := by
              rintro rfl
              have := (hlook t ht np (Nat.le_refl _) (by rw [hoq]; exact hdq)).2
              omega
            rw [hno t fun j hj _ hjt => hx ⟨j, hj, hjt⟩, slot_no i (by omega) t fun j hj hjt => hx ⟨j, by omega, hjt⟩, upd_ne htd]
        · intro a' w' hf' hs'
          have hset : ∀ j, (listed.setIfInBounds i true).getD j false = if i = j then true else listed.getD j false := fun j => getD_set' (by omega)
          refine ih (listed.setIfInBounds i true) (upd ρ' d (vs i)) a' w' (by simpa using hsz) ?_ ?_ ?_ ?_ ?_ ?_ ?_ hf' hs'
          · rw [cnt_set (by omega) hli', if_pos hlt]; omega
          · intro j hj
            rw [hset, if_neg (by omega)]; exact htail j hj
          · rw [hset, if_neg (by omega)]; exact hnpl
          · intro j hj hb
            rw [hset]; split
            · rfl
            · exact hnl j hj hb
          · intro q oq hoq hlq e he hb
            rw [hset] at hlq ⊢
            by_cases hiq : i = q
            · subst hiq
              rw [ho] at hoq
              obtain rfl := Option.some.inj hoq
              split
              · rfl
              · exact hdeps e he hb
            · rw [if_neg hiq] at hlq
              split
              · rfl
              · exact hdown q oq hoq hlq e he hb
          · intro j hj hlj t hjt
            rw [hset] at hlj
            by_cases hij : i = j
            · subst hij
              rw [ho] at hjt
              have : d = t := by simpa [h2] using hjt
              subst this
              exact upd_eq
            · rw [if_neg hij] at hlj
              have hne : t ≠ d := by
                rintro rfl
                exact huniq j (by omega) hij (by rw [hjt, h2])
              rw [upd_ne hne]
              exact hvs j hj hlj t hjt
          · intro t ht
            have hne : t ≠ d := by
              rintro rfl
              exact ht i hip (by rw [hset, if_pos rfl]) (by rw [ho]; exact h2)
            rw [upd_ne hne]
            refine hno t fun j hj hlj => ht j hj ?_
            rw [hset]
            split
            · rfl
            · exact hlj
      · have hinp : np < i := by
          rcases Nat.lt_or_ge np i with h | h
          · exact h
          · have : i = np := by omega
            rw [this, hnpl] at hli'; cases hli'
        have hall : ∀ j, j ≤ np → listed.getD j false = true := fun j hj => hanc j (htailc hinp j hj)
        have hρ : ρ' = upd (rr np) dq v := by
          funext t
          by_cases hx : ∃ j, j < np ∧ ((ops[j]?).bind (·.dst)) = some t
          · obtain ⟨j, hj, ht⟩ := hx
            have : t ≠ dq := by rintro rfl; exact hdqj j hj ht
            rw [hvs j hj (hall j (by omega)) t ht, upd_ne this, slot_is np (Nat.le_refl _) j hj t ht]
          · rw [hno t fun j hj _ ht => hx ⟨j, hj, ht⟩]
            by_cases htd : t = dq
            · subst htd; rw [upd_eq, upd_eq]
            · rw [upd_ne htd, upd_ne htd, slot_no np (Nat.le_refl _) t fun j hj ht => hx ⟨j, hj, ht⟩]
        have hlm : listed = maskTo ops.size (np + 1) := by
          apply Array.ext
          · simp [maskTo, hsz]
          · intro q h1 h2
            have e1 : listed[q] = listed.getD q false := by rw [Array.getD_eq_getD_getElem?, Array.getElem?_eq_getElem h1]; rfl
            rw [e1]
            by_cases hq : q < np + 1
            · rw [hall q (by omega)]; simp [maskTo, hq]
            · rw [htail q (by omega)]; simp [maskTo]; omega
        have hcn : cnt listed ops.size = np + 1 := by
          have : ∀ q, q ≤ ops.size → cnt listed q = min q (np + 1) := by
            intro q
            induction q with
            | zero => intro _; simp [cnt]
            | succ q ihq =>
              intro hq
              simp only [cnt]
              rw [ihq (by omega)]
              by_cases hqn : q < np + 1
              · rw [hall q (by omega)]; simp; omega
              · rw [htail q (by omega)]; simp; omega
          rw [this _ (Nat.le_refl _)]; omega
        have hfin := tail_any (P := P) (F := fw r) (Q := sem P ⟨P, r, Γ, fin⟩ ks) hseq' hend (ops.size - (np + 1)) (np + 1) (Nat.le_refl _) (by omega) (fuel + 1) (by omega) a w (by rw [hρ] at hf; exact (hrest v m' own' hT).2 a w hf hs)
        rw [← hlm] at hfin
        exact hfin.2 i (by rw [mem_ready]; exact ⟨hli, o, ho, hdeps⟩)
  -- ahead of q
  have main : ∀ (fuel : Nat) (listed : Array Bool) (ρ' : Nat → Value) (a : Act) (w : World), listed.size = ops.size → fuel + cnt listed ops.size = ops.size →
      (∀ i, np ≤ i → listed.getD i false = false) → (∀ i o, ops[i]? = some o → listed.getD i false = true → ∀ e ∈ o.after, Region.binds .any e = true → listed.getD e.on false = true) →
      (∀ j, j < np → listed.getD j false = true → ∀ t, ((ops[j]?).bind (·.dst)) = some t → ρ' t = vs j) →
      (∀ t, (∀ j, j < np → listed.getD j false = true → ((ops[j]?).bind (·.dst)) ≠ some t) → ρ' t = ρ t) →
      FrameIs n ds ρ' a → Γ.St m own w → wpAnyIn (fw r) 0 P .any ops (sem P ⟨P, r, Γ, fin⟩ ks) fuel listed a w := by
    intro fuel
    induction fuel with
    | zero =>
      intro listed ρ' a w hsz hcnt htail hdown hvs hno hf hs
      have hall : ∀ i, i < ops.size → listed.getD i false = true := all_of_cnt (by omega)
      have := hall np hnp
      rw [htail np (Nat.le_refl _)] at this; cases this
    | succ fuel ih =>
      intro listed ρ' a w hsz hcnt htail hdown hvs hno hf hs
      refine ⟨fun hnil => absurd hnil (someReady listed hsz (by omega)), ?_⟩
      intro i hi
      rw [mem_ready] at hi
      obtain ⟨hli, o, ho, hdeps⟩ := hi
      have hlt : i < ops.size := (Array.getElem?_eq_some_iff.1 ho).1
      have hli' : listed.getD i false = false := unl listed i hsz hlt hli
      have hanc := clos listed hdown i hlt (fun oq hoq e he hb => by
        rw [ho] at hoq; obtain rfl := Option.some.inj hoq; exact hdeps e he hb)
      obtain ⟨o', ho', hlow, _, hsel, hpure, htailc⟩ := key i hlt
      rw [ho] at ho'
      obtain rfl := Option.some.inj ho'
      have hset : ∀ j, (listed.setIfInBounds i true).getD j false = if i = j then true else listed.getD j false := fun j => getD_set' (by omega)
      have hdown' : ∀ q o, ops[q]? = some o → (listed.setIfInBounds i true).getD q false = true → ∀ e ∈ o.after, Region.binds .any e = true → (listed.setIfInBounds i true).getD e.on false = true := by
        intro q oq hoq hlq e he hb
        rw [hset] at hlq ⊢
        by_cases hiq : i = q
        · subst hiq
          rw [ho] at hoq
          obtain rfl := Option.some.inj hoq
          split
          · rfl
          · exact hdeps e he hb
        · rw [if_neg hiq] at hlq
          split
          · rfl
          · exact hdown q oq hoq hlq e he hb
      have hcnt' : fuel + cnt (listed.setIfInBounds i true) ops.size = ops.size := by rw [cnt_set (by omega) hli', if_pos hlt]; omega
      rcases Nat.lt_trichotomy i np with hip | hip | hip
      · obtain ⟨o2, d, h1, h2, h3, h4, _, h5⟩ := hop i hip
        rw [ho] at h1
        obtain rfl := Option.some.inj h1
        obtain ⟨huniq, hlook, _⟩ := hpure (by omega)
        refine PStep.at_ ho h4 h2 h3 hsel (hrru i (by omega)) ?_ hf hs ?_
        · intro t ht
          by_cases hx : ∃ j, j < np ∧ ((ops[j]?).bind (·.dst)) = some t
          · obtain ⟨j, hj, hjt⟩ := hx
            obtain ⟨q1, q2⟩ := hlook t ht j (by omega) hjt
            rw [hvs j hj (hanc j q1) t hjt, slot_is i (by omega) j q2 t hjt]
          · rw [hno t fun j hj _ hjt => hx ⟨j, hj, hjt⟩, slot_no i (by omega) t fun j hj hjt => hx ⟨j, by omega, hjt⟩]
        · intro a' w' hf' hs'
          refine ih (listed.setIfInBounds i true) (upd ρ' d (vs i)) a' w' (by simpa using hsz) hcnt' ?_ hdown' ?_ ?_ hf' hs'
          · intro j hj
            rw [hset, if_neg (by omega)]; exact htail j hj
          · intro j hj hlj t hjt
            rw [hset] at hlj
            by_cases hij : i = j
            · subst hij
              rw [ho] at hjt
              have : d = t := by simpa [h2] using hjt
              subst this
              exact upd_eq
            · rw [if_neg hij] at hlj
              have hne : t ≠ d := by
                rintro rfl
                exact huniq j (by omega) hij (by rw [hjt, h2])
              rw [upd_ne hne]
              exact hvs j hj hlj t hjt
          · intro t ht
            have hne : t ≠ d := by
              rintro rfl
              exact ht i hip (by rw [hset, if_pos rfl]) (by rw [ho]; exact h2)
            rw [upd_ne hne]
            refine hno t fun j hj hlj => ht j hj ?_
            rw [hset]
            split
            · rfl
            · exact hlj
      · subst hip
        rw [hoq] at ho
        obtain rfl := Option.some.inj ho
        obtain ⟨huniq, hlook, hnl⟩ := hpure (Nat.le_refl _)
        refine QStep.at_ hoq hQ hdq hdn hsel (hrru i (Nat.le_refl _)) ?_ hf hs ?_
        · intro t ht
          by_cases hx : ∃ j, j < i ∧ ((ops[j]?).bind (·.dst)) = some t
          · obtain ⟨j, hj, hjt⟩ := hx
            obtain ⟨q1, q2⟩ := hlook t ht j (by omega) hjt
            rw [hvs j hj (hanc j q1) t hjt, slot_is i (by omega) j q2 t hjt]
          · rw [hno t fun j hj _ hjt => hx ⟨j, hj, hjt⟩, slot_no i (by omega) t fun j hj hjt => hx ⟨j, by omega, hjt⟩]
        · intro v m' own' a' w' hT hf' hs'
          refine main1 v m' own' hT fuel (listed.setIfInBounds i true) (upd ρ' dq v) a' w' (by simpa using hsz) hcnt' ?_ ?_ ?_ hdown' ?_ ?_ hf' hs'
          · intro j hj
            rw [hset, if_neg (by omega)]; exact htail j (by omega)
          · rw [hset, if_pos rfl]
          · intro j hj hb
            rw [hset]; split
            · rfl
            · rcases hnl rfl j hj with h7 | h7
              · rw [hb] at h7; cases h7
              · exact hanc j h7
          · intro j hj hlj t hjt
            rw [hset, if_neg (by omega)] at hlj
            have hne : t ≠ dq := by rintro rfl; exact hdqj j hj hjt
            rw [upd_ne hne]
            exact hvs j hj hlj t hjt
          · intro t ht
            by_cases htd : t = dq
            · subst htd; rw [upd_eq, upd_eq]
            · rw [upd_ne htd, upd_ne htd]
              refine hno t fun j hj hlj => ht j hj ?_
              rw [hset]
              split
              · rfl
              · exact hlj
      · have := hanc np (htailc hip np (Nat.le_refl _))
        rw [htail np (Nat.le_refl _)] at this; cases this
  have hrep : ∀ i, (Array.replicate ops.size false).getD i false = false := by
    intro i
    simp only [Array.getD_eq_getD_getElem?, Array.getElem?_replicate]
    split <;> rfl
  refine main ops.size (Array.replicate ops.size false) ρ a _ (by simp) ?_ (fun i _ => hrep i) ?_ ?_ (fun t _ => rfl) hf (hs.drewn _)
  · have : ∀ k, cnt (Array.replicate ops.size false) k = 0 := by
      intro k
      induction k with
      | zero => rfl
      | succ k ih => simp only [cnt, ih, hrep]; rfl
    rw [this]; rfl
  · intro i o _ hl; rw [hrep] at hl; cases hl
  · intro j _ hl; rw [hrep] at hl; cases hl
theorem WRL.cons {late : List Nat} {Fin : (Nat → Value) → Prop} {ρ : Nat → Value} {o : Oper} {l : List Oper} {i d : Nat} {v : Value} (h1 : o.dst = some d) (h2 : Nat.blt d n = true) (h3 : PStep P r Γ n ds m own ops ρ o d v) (hl : late.contains i = false)
    (h4 : WRL P r Γ n ds m own ops late Fin (i + 1) l (upd ρ d v)) : WRL P r Γ n ds m own ops late Fin i (o :: l) ρ :=
  ⟨d, v, h1, h2, h3, fun h => absurd h (by rw [hl]; simp), h4⟩
theorem WRL.late {late : List Nat} {Fin : (Nat → Value) → Prop} {ρ : Nat → Value} {o : Oper} {l : List Oper} {i d : Nat} {v : Value} (h1 : o.dst = some d) (h2 : Nat.blt d n = true) (h3 : PStep P r Γ n ds m own ops ρ o d v) (h5 : ∀ blk, PStep P r Γ n ds m (blk :: own) ops ρ o d v)
    (h4 : WRL P r Γ n ds m own ops late Fin (i + 1) l (upd ρ d v)) : WRL P r Γ n ds m own ops late Fin i (o :: l) ρ :=
  ⟨d, v, h1, h2, h3, fun _ => h5, h4⟩
theorem WRL.nil {late : List Nat} {Fin : (Nat → Value) → Prop} {ρ : Nat → Value} {i : Nat} (h : Fin ρ) : WRL P r Γ n ds m own ops late Fin i [] ρ := h
theorem QStep.buildSlice {ρ : Nat → Value} {d : Nat} {t el ty : TypeId} {k bytes len : Nat} {agg : Bool} {z : Value} {parts : Array (Nat × Operand)} {pos : String} {af : Array Edge} [hU : Und P t (.slice el)] [hT : Ty P el agg k bytes z] (hd : Nat.blt d n = true) (xs : List Value)
    (hp : (parts.toList.map fun p => (p.1, ev ρ p.2)) = (xs.zipIdx 0).map fun p => (p.2, p.1)) (hlen : xs.length = len) (hkf : Fits k xs) (hsm : Nat.ble (len * k) 16777216 = true) :
    QStep P r Γ n ds m own ops ρ ⟨some d, .buildSlice t len parts, ty, pos, af, none⟩ d (fun v m1 own1 => m1 = m ∧ ∃ b blk, blk = [(b, .cells (cellsOf xs).toArray el (0, 0))] ∧ own1 = blk :: own ∧ OSl blk k el v xs) :=
  fun K h => WL.buildSlice hd xs hp hlen hkf hsm fun b blk v hb hO => h _ _ _ ⟨rfl, b, blk, hb, rfl, hO⟩
theorem WR.cons {Fin : (Nat → Value) → Prop} {ρ : Nat → Value} {o : Oper} {l : List Oper} {d : Nat} {v : Value} (h1 : o.dst = some d) (h2 : Nat.blt d n = true) (h3 : PStep P r Γ n ds m own ops ρ o d v) (h4 : WR P r Γ n ds m own ops Fin l (upd ρ d v)) : WR P r Γ n ds m own ops Fin (o :: l) ρ :=
  ⟨d, v, h1, h2, h3, h4⟩
theorem WR.nil {Fin : (Nat → Value) → Prop} {ρ : Nat → Value} (h : Fin ρ) : WR P r Γ n ds m own ops Fin [] ρ := h
end
end Go.SL
