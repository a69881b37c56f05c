/- A separation-logic layer over the fenced walk: states (frame, immutable memory, own blocks), one rule an operation. Generic in the program. -/
import Derived.RangeFuncIn
import Derived.RangeFuncCalls
import Derived.TacticsIn
import Derived.KernelRfl
namespace Go.SL
open Go

/-! ## Frames -/
def upd (ρ : Nat → Value) (d : Nat) (v : Value) : Nat → Value := fun x => bif Nat.beq x d then v else ρ x
def upds : List (Nat × Value) → (Nat → Value) → (Nat → Value)
  | [], ρ => ρ
  | p :: l, ρ => upd (upds l ρ) p.1 p.2
def ev (ρ : Nat → Value) : Operand → Value
  | .tmp t => ρ t
  | .const v => v
  | .global g => .pointer (some ⟨g, 0, none⟩)
  | .func f => .func (.func f) #[] #[]
def entry (args : List Value) : Nat → Value := fun i => (args[i]?).getD undef

theorem upd_same (ρ : Nat → Value) (d : Nat) : upd ρ d (ρ d) = ρ := by
  funext x
  unfold upd
  cases h : Nat.beq x d with
  | true => rw [Nat.eq_of_beq_eq_true h]; rfl
  | false => rfl
/-- The slots hold what the list says. -/
def Slots (ρ : Nat → Value) : List (Nat × Value) → Prop
  | [] => True
  | p :: l => ρ p.1 = p.2 ∧ Slots ρ l
theorem upds_same {ρ : Nat → Value} {l : List (Nat × Value)} (h : Slots ρ l) : upds l ρ = ρ := by
  induction l with
  | nil => rfl
  | cons p l ih =>
    simp only [upds]
    rw [ih h.2, ← h.1]
    exact upd_same _ _

structure FrameIs (n : Nat) (ds : List Deferred) (ρ : Nat → Value) (a : Act) : Prop where
  size : a.tmps.size = n
  defers : a.defers = ds
  slot : ∀ i, a.tmps.getD i undef = ρ i

theorem FrameIs.eval {n : Nat} {ds : List Deferred} {ρ : Nat → Value} {a : Act} (h : FrameIs n ds ρ a) : a.eval = ev ρ := by
  funext x
  cases x with
  | tmp t => exact h.slot t
  | const v => rfl
  | global g => rfl
  | func f => rfl

theorem FrameIs.put {n : Nat} {ds : List Deferred} {ρ : Nat → Value} {a : Act} (h : FrameIs n ds ρ a) {d : Nat} (hd : Nat.blt d n = true) (v : Value) : FrameIs n ds (upd ρ d v) (a.put (some d) v) := by
  have hd' : d < n := by simpa [Nat.blt_eq] using hd
  refine ⟨by simp [Act.put, h.size], h.defers, fun i => ?_⟩
  have hs := h.slot i
  have hz := h.size
  simp only [Act.put, upd, Array.getD_eq_getD_getElem?, Array.getElem?_setIfInBounds] at hs ⊢
  by_cases hi : d = i
  · subst hi
    rw [if_pos rfl, if_pos (by omega)]
    rw [show Nat.beq d d = true from Nat.beq_refl d]
    rfl
  · rw [if_neg hi]
    rw [show Nat.beq i d = false from by
      cases hb : Nat.beq i d with
      | true => exact absurd (Nat.eq_of_beq_eq_true hb).symm hi
      | false => rfl]
    exact hs

theorem FrameIs.putNone {n : Nat} {ds : List Deferred} {ρ : Nat → Value} {a : Act} (h : FrameIs n ds ρ a) (v : Value) : FrameIs n ds ρ (a.put none v) := h

theorem FrameIs.start {args : List Value} {k n : Nat} (hn : args.length + k = n) : FrameIs n [] (entry args) { tmps := args.toArray ++ Array.replicate k undef, defers := [] } := by
  refine ⟨by simp [hn], rfl, fun i => ?_⟩
  simp only [entry, Array.getD_eq_getD_getElem?, Array.getElem?_append, List.size_toArray, List.getElem?_toArray, Array.getElem?_replicate]
  by_cases hi : i < args.length
  · rw [if_pos hi]
  · rw [if_neg hi, List.getElem?_eq_none (by omega)]
    split <;> rfl

/-! ## Memory -/
abbrev Imm := Nat → Option Obj
abbrev Bun := List (Nat × Obj)
abbrev Own := List Bun
def keys (o : Own) : List Nat := o.flatten.map (·.1)

def Le (m m' : Imm) : Prop := ∀ b o, m b = some o → m' b = some o
theorem Le.refl (m : Imm) : Le m m := fun _ _ h => h
theorem Le.trans {a b c : Imm} (h : Le a b) (k : Le b c) : Le a c := fun _ _ x => k _ _ (h _ _ x)

structure Inv (m : Imm) (own : Own) (w : World) : Prop where
  imm : ∀ b o, m b = some o → w.heap[b]? = some o
  mine : ∀ p ∈ own.flatten, w.heap[p.1]? = some p.2
  dis : ∀ p ∈ own.flatten, m p.1 = none
  nd : (keys own).Nodup

structure Ent where
  w : World
  m : Imm
  own : Own

/-- What stands of a world in the middle of a call, against the world at its entry. -/
structure Ent.St (Γ : Ent) (m : Imm) (own : Own) (w : World) : Prop where
  inv : Inv m own w
  os : w.os = Γ.w.os
  tape : w.tape = Γ.w.tape
  output : w.output = Γ.w.output
  size : Γ.w.heap.size ≤ w.heap.size
  keep : ∀ b, b < Γ.w.heap.size → b ∉ keys Γ.own → w.heap[b]? = Γ.w.heap[b]?
  le : Le Γ.m m
  newm : ∀ b, m b ≠ none → Γ.m b ≠ none ∨ b ∈ keys Γ.own ∨ Γ.w.heap.size ≤ b
  newo : ∀ b ∈ keys own, b ∈ keys Γ.own ∨ Γ.w.heap.size ≤ b

theorem Ent.St.start {m : Imm} {own : Own} {w : World} (h : Inv m own w) : Ent.St ⟨w, m, own⟩ m own w :=
  ⟨h, rfl, rfl, rfl, Nat.le_refl _, fun _ _ _ => rfl, Le.refl m, fun _ h => .inl h, fun _ h => .inl h⟩

/-- A contract: immutable memory m, own blocks lent; the result, more immutable memory, own blocks given back. -/
def Tr (P : Program) (f : FuncId) (args : List Value) (m : Imm) (own : Own) (Φ : Value → Imm → Own → Prop) : Prop :=
  ∀ w, Inv m own w → Calls P f args.toArray w fun e w' => ∃ v m' own', e = .returned v ∧ Φ v m' own' ∧ Ent.St ⟨w, m, own⟩ m' own' w'

/-- A contract of a function that only computes: it may make blocks, and leaves what was. -/
structure Grew (w w' : World) : Prop where
  os : w'.os = w.os
  tape : w'.tape = w.tape
  output : w'.output = w.output
  size : w.heap.size ≤ w'.heap.size
  keep : ∀ b, b < w.heap.size → w'.heap[b]? = w.heap[b]?
def Pu (P : Program) (f : FuncId) (args : List Value) (v : Value) : Prop :=
  ∀ w, Calls P f args.toArray w fun e w' => e = .returned v ∧ Grew w w'

theorem heap_lt {w : World} {b : Nat} {o : Obj} (h : w.heap[b]? = some o) : b < w.heap.size := by
  rcases Nat.lt_or_ge b w.heap.size with hlt | hge
  · exact hlt
  · rw [Array.getElem?_eq_none hge] at h; cases h

theorem Inv.grew {m : Imm} {own : Own} {w w' : World} (h : Inv m own w) (g : Grew w w') : Inv m own w' :=
  ⟨fun b o hb => by rw [g.keep b (heap_lt (h.imm b o hb))]; exact h.imm b o hb,
   fun p hp => by rw [g.keep _ (heap_lt (h.mine p hp))]; exact h.mine p hp, h.dis, h.nd⟩

theorem Ent.St.grew {Γ : Ent} {m : Imm} {own : Own} {w w' : World} (h : Ent.St Γ m own w) (g : Grew w w') : Ent.St Γ m own w' :=
  ⟨h.inv.grew g, g.os.trans h.os, g.tape.trans h.tape, g.output.trans h.output, Nat.le_trans h.size g.size,
   fun b hb hn => (g.keep b (Nat.lt_of_lt_of_le hb h.size)).trans (h.keep b hb hn), h.le, h.newm, h.newo⟩

/-- Nothing of memory is kept: what is below stays. -/
theorem Pu.of_tr {P : Program} {f : FuncId} {args : List Value} {v : Value} (h : Tr P f args (fun _ => none) [] fun u _ _ => u = v) : Pu P f args v := by
  intro w
  refine (h w ⟨fun _ _ h => (by cases h), fun _ h => (by cases h), fun _ h => (by cases h), List.nodup_nil⟩).mono ?_
  rintro e w' ⟨u, m', own', rfl, rfl, st⟩
  exact ⟨rfl, st.os, st.tape, st.output, st.size, fun b hb => st.keep b hb (by simp [keys])⟩

/-! ## What is to be done: a list of codes, block marks and loop marks -/
inductive Kt where
  | code (c : Code)
  | blk (id : Nat)
  | lp (J : Act → World → Prop)

def fw (r : Option Nat) : Fence := { fn := fun _ => True, depth := none, alive := false, round := r }

structure Env where
  P : Program
  r : Option Nat
  Γ : Ent
  fin : Exit → Act → World → Prop

def sem (P : Program) (E : Env) : List Kt → Exit → Act → World → Prop
  | [] => E.fin
  | .code c :: ks => Exit.then (c.wpIn (fw E.r) 0 P (sem P E ks)) (sem P E ks)
  | .blk id :: ks => Exit.inBlock id (sem P E ks)
  | .lp J :: ks => Exit.then J (sem P E ks)

/-- The state (ds, m, own, ρ), left by e, with ks to be done. -/
def WK (P : Program) (E : Env) (n : Nat) (ds : List Deferred) (m : Imm) (own : Own) (ρ : Nat → Value) (e : Exit) (ks : List Kt) : Prop :=
  ∀ a w, FrameIs n ds ρ a → E.Γ.St m own w → sem P E ks e a w
/-- In a region: operations l to be done. -/
def WL (P : Program) (E : Env) (n : Nat) (ds : List Deferred) (m : Imm) (own : Own) (ρ : Nat → Value) (ops : Array Oper) (l : List Oper) (ks : List Kt) : Prop :=
  ∀ a w, FrameIs n ds ρ a → E.Γ.St m own w → wpListIn (fw E.r) 0 P ops (sem P E ks) l a w

theorem wpIn_loop_ghost {P : Program} {F : Fence} {c : Code} {Q : Exit → Act → World → Prop} {J : Nat → Act → World → Prop}
    (round : ∀ k a w, J k a w → c.wpIn F 0 P (Exit.then (fun a' w' => ∃ k', k' < k ∧ J k' a' w') Q) a w) (k : Nat) (a : Act) (w : World) (h : J k a w) : (Code.loop c).wpIn F 0 P Q a w := by
    intro b kk cs hro hb hr
    have key : ∀ j a w, J j a w → ∃ e a' w', Q e a' w' ∧ ArrivesIn (Machine.fenced P F) P (lone (b.atR a (.code c :: .inLoop c :: kk)) cs w) b kk cs e a' w' := by
      intro j
      induction j using Nat.strongRecOn with
      | _ j ih =>
        intro a w hJ
        obtain ⟨e, a₁, w₁, hq, harr⟩ := round j a w hJ b (.inLoop c :: kk) cs hro hb hr
        cases e with
        | normal =>
          obtain ⟨k', hlt, hJ'⟩ := hq
          obtain ⟨e₂, a₂, w₂, hq₂, harr₂⟩ := ih k' hlt a₁ w₁ hJ'
          exact ⟨e₂, a₂, w₂, hq₂, .of_steps (StepsIn.trans harr (.one (fenced_calm hb hr rfl) stepR_inLoop)) harr₂⟩
        | exit id => exact ⟨_, a₁, w₁, hq, .pass (x := .inLoop c) rfl (fun _ _ => .inl (by simp)) harr⟩
        | goto l => exact ⟨_, a₁, w₁, hq, .pass (x := .inLoop c) rfl (fun _ _ => .inl (by simp)) harr⟩
        | ret => exact ⟨_, a₁, w₁, hq, .pass (x := .inLoop c) rfl (fun _ _ => .inl (by simp)) harr⟩
        | panic ch => exact ⟨_, a₁, w₁, hq, .pass (x := .inLoop c) rfl (fun _ _ => .inl (by simp)) harr⟩
        | outgrown => exact ⟨_, a₁, w₁, hq, .pass (x := .inLoop c) rfl (fun _ _ => .inl (by simp)) harr⟩
    obtain ⟨e, a', w', hq, harr⟩ := key k a w h
    exact ⟨e, a', w', hq, .of_steps (.one (fenced_calm hb hr rfl) stepR_loop) harr⟩

section codes
variable {P : Program} {E : Env} {n : Nat} {ds : List Deferred} {m : Imm} {own : Own} {ρ : Nat → Value} {ks : List Kt}

theorem WK.seq {x y : Code} (h : WK P E n ds m own ρ .normal (.code x :: .code y :: ks)) : WK P E n ds m own ρ .normal (.code (.seq x y) :: ks) := by
  intro a w hf hs
  have := h a w hf hs
  simp only [sem, Exit.then] at this ⊢
  exact wpIn_seq this
theorem WK.skip (h : WK P E n ds m own ρ .normal ks) : WK P E n ds m own ρ .normal (.code .skip :: ks) := fun a w hf hs => wpIn_skip (h a w hf hs)
theorem WK.label {l : Nat} (h : WK P E n ds m own ρ .normal ks) : WK P E n ds m own ρ .normal (.code (.label l) :: ks) := fun a w hf hs => wpIn_label (h a w hf hs)
theorem WK.block {id : Nat} {c : Code} (h : WK P E n ds m own ρ .normal (.code c :: .blk id :: ks)) : WK P E n ds m own ρ .normal (.code (.block id c) :: ks) :=
  fun a w hf hs => wpIn_block (h a w hf hs)
theorem WK.blk {id : Nat} (h : WK P E n ds m own ρ .normal ks) : WK P E n ds m own ρ .normal (.blk id :: ks) := h
theorem WK.exit {id : Nat} (h : WK P E n ds m own ρ (.exit id) ks) : WK P E n ds m own ρ .normal (.code (.exit id) :: ks) := fun a w hf hs => wpIn_exit (h a w hf hs)
theorem WK.ret (h : WK P E n ds m own ρ .ret ks) : WK P E n ds m own ρ .normal (.code .ret :: ks) := fun a w hf hs => wpIn_ret (h a w hf hs)
theorem WK.ret_code {c : Code} (h : WK P E n ds m own ρ .ret ks) : WK P E n ds m own ρ .ret (.code c :: ks) := h
theorem WK.ret_blk {id : Nat} (h : WK P E n ds m own ρ .ret ks) : WK P E n ds m own ρ .ret (.blk id :: ks) := h
theorem WK.ret_lp {J} (h : WK P E n ds m own ρ .ret ks) : WK P E n ds m own ρ .ret (.lp J :: ks) := h
theorem WK.exit_code {id : Nat} {c : Code} (h : WK P E n ds m own ρ (.exit id) ks) : WK P E n ds m own ρ (.exit id) (.code c :: ks) := h
theorem WK.exit_lp {id : Nat} {J} (h : WK P E n ds m own ρ (.exit id) ks) : WK P E n ds m own ρ (.exit id) (.lp J :: ks) := h
theorem WK.exit_hit {id : Nat} (h : WK P E n ds m own ρ .normal ks) : WK P E n ds m own ρ (.exit id) (.blk id :: ks) := by
  intro a w hf hs
  simp only [sem, Exit.inBlock, if_true]
  exact h a w hf hs
theorem WK.exit_miss {id id' : Nat} (hne : Nat.beq id id' = false) (h : WK P E n ds m own ρ (.exit id) ks) : WK P E n ds m own ρ (.exit id) (.blk id' :: ks) := by
  intro a w hf hs
  have : id ≠ id' := fun e => by subst e; rw [Nat.beq_refl] at hne; cases hne
  simp only [sem, Exit.inBlock, if_neg this]
  exact h a w hf hs
theorem WK.cond {x : Operand} {c d : Code} {b : Bool} (hx : ev ρ x = .bool b) (ht : b = true → WK P E n ds m own ρ .normal (.code c :: ks))
    (hf : b = false → WK P E n ds m own ρ .normal (.code d :: ks)) : WK P E n ds m own ρ .normal (.code (.cond x c d) :: ks) := by
  intro a w hfr hs
  refine wpIn_cond_split (by rw [hfr.eval]; exact hx) (fun h => ht h a w hfr hs) (fun h => hf h a w hfr hs)
theorem WK.cond_t {x : Operand} {c d : Code} (hx : ev ρ x = .bool true) (h : WK P E n ds m own ρ .normal (.code c :: ks)) : WK P E n ds m own ρ .normal (.code (.cond x c d) :: ks) :=
  WK.cond hx (fun _ => h) (fun h => by cases h)
theorem WK.cond_f {x : Operand} {c d : Code} (hx : ev ρ x = .bool false) (h : WK P E n ds m own ρ .normal (.code d :: ks)) : WK P E n ds m own ρ .normal (.code (.cond x c d) :: ks) :=
  WK.cond hx (fun h => by cases h) (fun _ => h)
theorem WK.region {id : Nat} {ops : Array Oper} (h : WL P E n ds m own ρ ops ops.toList ks) : WK P E n ds m own ρ .normal (.code (.region id ops false) :: ks) :=
  fun a w hf hs => wpIn_region_list (h a w hf hs)
theorem WL.nil {ops : Array Oper} (h : WK P E n ds m own ρ .normal ks) : WL P E n ds m own ρ ops [] ks := fun a w hf hs => h a w hf hs

/-- What stands at a loop's head. -/
def Head {G : Type} (E : Env) (n : Nat) (ds : List Deferred) (sl : G → List (Nat × Value)) (mm : G → Imm) (oo : G → Own) (I : G → Prop) (μ : G → Nat) (k : Nat) (a : Act) (w : World) : Prop :=
  ∃ g ρ, I g ∧ μ g < k ∧ Slots ρ (sl g) ∧ FrameIs n ds ρ a ∧ E.Γ.St (mm g) (oo g) w

/-- A loop: ghosts g; the slots that count; immutable memory and own blocks at the head; what holds of the ghosts; a measure. -/
theorem WK.loop {c : Code} {G : Type} (sl : G → List (Nat × Value)) (mm : G → Imm) (oo : G → Own) (I : G → Prop) (μ : G → Nat) (g0 : G)
    (hI : I g0) (hsl : Slots ρ (sl g0)) (hm : m = mm g0) (ho : own = oo g0)
    (round : ∀ g ρ, I g → WK P E n ds (mm g) (oo g) (upds (sl g) ρ) .normal (.code c :: .lp (Head E n ds sl mm oo I μ (μ g)) :: ks)) :
    WK P E n ds m own ρ .normal (.code (.loop c) :: ks) := by
  intro a w hf hs
  subst hm; subst ho
  simp only [sem, Exit.then]
  -- the measure is read off the ghosts, by strong induction on it: the relation carries the ghost's measure
  refine wpIn_loop_ghost (J := fun k a w => ∃ g ρ, I g ∧ μ g ≤ k ∧ Slots ρ (sl g) ∧ FrameIs n ds ρ a ∧ E.Γ.St (mm g) (oo g) w) ?_ (μ g0) a w ⟨g0, ρ, hI, Nat.le_refl _, hsl, hf, hs⟩
  intro k a w ⟨g, ρ, hI, hk, hsl, hf, hs⟩
  have h1 := round g ρ hI a w (by rw [upds_same hsl]; exact hf) hs
  simp only [sem, Exit.then] at h1
  refine Go.wpIn_mono h1 ?_
  intro e a w h
  cases e with
  | normal =>
    obtain ⟨g', ρ', hI', hlt, r1, r2, r3⟩ := h
    exact ⟨μ g', Nat.lt_of_lt_of_le hlt hk, g', ρ', hI', Nat.le_refl _, r1, r2, r3⟩
  | exit id => exact h
  | goto l => exact h
  | ret => exact h
  | panic c => exact h
  | outgrown => exact h
/-- The round's end: new ghosts. -/
theorem WK.again {G : Type} {sl : G → List (Nat × Value)} {mm : G → Imm} {oo : G → Own} {I : G → Prop} {μ : G → Nat} {k : Nat} (g : G)
    (hI : I g) (hμ : μ g < k) (hsl : Slots ρ (sl g)) (hm : m = mm g) (ho : own = oo g) :
    WK P E n ds m own ρ .normal (.lp (Head E n ds sl mm oo I μ k) :: ks) := by
  subst hm; subst ho
  exact fun a w hf hs => ⟨g, ρ, hI, hμ, hsl, hf, hs⟩
/-- A meeting of ways: what holds behind a code, whichever way led there; the rest is walked once. -/
def Mid {G : Type} (E : Env) (n : Nat) (ds : List Deferred) (sl : G → List (Nat × Value)) (mm : G → Imm) (oo : G → Own) (I : G → Prop) (a : Act) (w : World) : Prop :=
  ∃ g ρ, I g ∧ Slots ρ (sl g) ∧ FrameIs n ds ρ a ∧ E.Γ.St (mm g) (oo g) w
theorem WK.mid {c : Code} {G : Type} (sl : G → List (Nat × Value)) (mm : G → Imm) (oo : G → Own) (I : G → Prop)
    (h1 : WK P E n ds m own ρ .normal (.code c :: .lp (Mid E n ds sl mm oo I) :: ks))
    (h2 : ∀ g ρ, I g → WK P E n ds (mm g) (oo g) (upds (sl g) ρ) .normal ks) :
    WK P E n ds m own ρ .normal (.code c :: ks) := by
  intro a w hf hs
  have h := h1 a w hf hs
  simp only [sem, Exit.then] at h ⊢
  refine Go.wpIn_mono h ?_
  intro e a w h
  cases e with
  | normal =>
    obtain ⟨g, ρ', hI, r1, r2, r3⟩ := h
    exact h2 g ρ' hI a w (by rw [upds_same r1]; exact r2) r3
  | exit id => exact h
  | goto l => exact h
  | ret => exact h
  | panic c => exact h
  | outgrown => exact h
theorem WK.met {G : Type} {sl : G → List (Nat × Value)} {mm : G → Imm} {oo : G → Own} {I : G → Prop} (g : G)
    (hI : I g) (hsl : Slots ρ (sl g)) (hm : m = mm g) (ho : own = oo g) :
    WK P E n ds m own ρ .normal (.lp (Mid E n ds sl mm oo I) :: ks) := by
  subst hm; subst ho
  exact fun a w hf hs => ⟨g, ρ, hI, hsl, hf, hs⟩
end codes

/-! ## The end of a function, and its beginning -/
def retPost (P : Program) (fn : Func) (Γ : Ent) (Φ : Value → Imm → Own → Prop) : Exit → Act → World → Prop :=
  bodyPost P fn fun e w' => ∃ v m' own', e = .returned v ∧ Φ v m' own' ∧ Γ.St m' own' w'

theorem Tr.of {P : Program} {f : FuncId} {fn : Func} {c : Code} {args : List Value} {m : Imm} {own : Own} {Φ : Value → Imm → Own → Prop} {n : Nat} (hf : P.funcs[f]? = some fn) (hn : fn.ntmps = n) (hb : fn.body = some c)
    (hk : Nat.ble args.length n = true)
    (h : ∀ w, WK P ⟨P, none, ⟨w, m, own⟩, retPost P fn ⟨w, m, own⟩ Φ⟩ n [] m own (entry args) .normal [.code c]) : Tr P f args m own Φ := by
  intro w hinv
  refine (callsIn_wide (n := 0)).1 ?_
  refine callsIn_of_wp hf hb trivial ?_
  have h0 := h w { tmps := args.toArray ++ Array.replicate (fn.ntmps - args.toArray.size) undef, defers := [] } w
    (by rw [hn]; simp only [List.size_toArray]; exact FrameIs.start (by rw [Nat.ble_eq] at hk; omega)) (Ent.St.start hinv)
  simp only [sem, Exit.then] at h0
  refine Go.wpIn_mono (F := Fence.wide) (n := 0) (Q := Exit.then (retPost P fn ⟨w, m, own⟩ Φ .normal) (retPost P fn ⟨w, m, own⟩ Φ)) ?_ ?_
  · refine Go.wpIn_mono h0 fun e a w h => ?_
    cases e <;> exact h
  · intro e a w h
    cases e <;> exact h

theorem Pu.of {P : Program} {f : FuncId} {fn : Func} {c : Code} {args : List Value} {v : Value} {n : Nat} (hf : P.funcs[f]? = some fn) (hn : fn.ntmps = n) (hb : fn.body = some c)
    (hk : Nat.ble args.length n = true)
    (h : ∀ w, WK P ⟨P, none, ⟨w, fun _ => none, []⟩, retPost P fn ⟨w, fun _ => none, []⟩ fun u _ _ => u = v⟩ n [] (fun _ => none) [] (entry args) .normal [.code c]) : Pu P f args v :=
  Pu.of_tr (Tr.of hf hn hb hk h)

section ends
variable {P : Program} {r : Option Nat} {Γ : Ent} {fn : Func} {Φ : Value → Imm → Own → Prop} {n : Nat} {m : Imm} {own : Own} {ρ : Nat → Value}

theorem WK.end1 {t : Tmp} {v : Value} (hr : fn.results = #[.tmp t]) (hv : ρ t = v) (h : Φ v m own) : WK P ⟨P, r, Γ, retPost P fn Γ Φ⟩ n [] m own ρ .ret [] := by
  intro a w hf hs
  refine ⟨hf.defers, _, results_tmp hr _ _ _, _, m, own, rfl, ?_, hs⟩
  rw [hf.slot, hv]; exact h
theorem WK.end2 {t u : Tmp} {v v' : Value} (hr : fn.results = #[.tmp t, .tmp u]) (hv : ρ t = v) (hu : ρ u = v') (h : Φ (.tuple #[v, v']) m own) : WK P ⟨P, r, Γ, retPost P fn Γ Φ⟩ n [] m own ρ .ret [] := by
  intro a w hf hs
  refine ⟨hf.defers, _, results_tmp2 hr _ _ _, _, m, own, rfl, ?_, hs⟩
  rw [hf.slot, hf.slot, hv, hu]; exact h
theorem WK.end3 {t u x : Tmp} {v v' v'' : Value} (hr : fn.results = #[.tmp t, .tmp u, .tmp x]) (hv : ρ t = v) (hu : ρ u = v') (hx : ρ x = v'') (h : Φ (.tuple #[v, v', v'']) m own) : WK P ⟨P, r, Γ, retPost P fn Γ Φ⟩ n [] m own ρ .ret [] := by
  intro a w hf hs
  refine ⟨hf.defers, .tuple #[a.tmps.getD t undef, a.tmps.getD u undef, a.tmps.getD x undef], ?_, _, m, own, rfl, ?_, hs⟩
  · simp [results, hr]
  · rw [hf.slot, hf.slot, hf.slot, hv, hu, hx]; exact h
theorem WK.end0 (hr : fn.results = #[]) (h : Φ (.tuple #[]) m own) : WK P ⟨P, r, Γ, retPost P fn Γ Φ⟩ n [] m own ρ .normal [] := by
  intro a w hf hs
  exact ⟨hf.defers, _, results_none hr _ _ _, _, m, own, rfl, h, hs⟩
theorem WK.end0r (hr : fn.results = #[]) (h : Φ (.tuple #[]) m own) : WK P ⟨P, r, Γ, retPost P fn Γ Φ⟩ n [] m own ρ .ret [] := by
  intro a w hf hs
  exact ⟨hf.defers, _, results_none hr _ _ _, _, m, own, rfl, h, hs⟩
/-- A result that lies in a box of its own. -/
theorem WK.endCell {t : Tmp} {ty : TypeId} {k b : Nat} {arr : Array Value} {tb : TypeId} (hr : fn.results = #[.cell t ty]) (hp : ρ t = .pointer (some ⟨b, 0, none⟩)) (hb : (b, .cells arr tb (0, 0)) ∈ own.flatten)
    (hl : ∀ w : World, w.heap[b]? = some (.cells arr tb (0, 0)) → (loadVar ty ⟨b, 0, none⟩).run P w = .ok (.agg arr) w) (_hk : arr.size = k) (h : Φ (.agg arr) m own) : WK P ⟨P, r, Γ, retPost P fn Γ Φ⟩ n [] m own ρ .ret [] := by
  intro a w hf hs
  refine ⟨hf.defers, .agg arr, ?_, _, m, own, rfl, h, hs⟩
  have h1 := hl w (hs.inv.mine _ hb)
  simp [results, hr, hf.slot, hp, asAddr, h1]
end ends
end Go.SL
