/- Rules of the separation-logic layer for memory: blocks made, read, written; slices; append. -/
import Derived.Test.YtbigjpjmdkgjmaaDoorSlOp
namespace Go.SL
open Go

/-! ## The state under a change of one bundle -/
inductive BUpd : Own → Bun → Bun → Own → Prop
  | here {blk blk' : Bun} {r : Own} : BUpd (blk :: r) blk blk' (blk' :: r)
  | there {x blk blk' : Bun} {r r' : Own} (h : BUpd r blk blk' r') : BUpd (x :: r) blk blk' (x :: r')

theorem BUpd.split {o o' : Own} {x y : Bun} (h : BUpd o x y o') : ∃ pre post, o = pre ++ x :: post ∧ o' = pre ++ y :: post := by
  induction h with
  | here => exact ⟨[], _, rfl, rfl⟩
  | there h ih =>
    obtain ⟨pre, post, rfl, rfl⟩ := ih
    exact ⟨_ :: pre, post, rfl, rfl⟩

structure Turned (w w1 : World) (blk blk' : Bun) : Prop where
  os : w1.os = w.os
  tape : w1.tape = w.tape
  output : w1.output = w.output
  size : w.heap.size ≤ w1.heap.size
  keep : ∀ b, b < w.heap.size → b ∉ blk.map (·.1) → w1.heap[b]? = w.heap[b]?
  mine : ∀ p ∈ blk', w1.heap[p.1]? = some p.2
  from_ : ∀ b ∈ blk'.map (·.1), b ∈ blk.map (·.1) ∨ w.heap.size ≤ b
  nd : (blk'.map (·.1)).Nodup

theorem keys_app (a b : Own) : keys (a ++ b) = keys a ++ keys b := by simp [keys]
theorem keys_cons (x : Bun) (b : Own) : keys (x :: b) = x.map (·.1) ++ keys b := by simp [keys]
theorem mem_keys {own : Own} {b : Nat} : b ∈ keys own ↔ ∃ o, (b, o) ∈ own.flatten := by
  simp only [keys, List.mem_map]
  constructor
  · rintro ⟨⟨x, o⟩, h, rfl⟩; exact ⟨o, h⟩
  · rintro ⟨o, h⟩; exact ⟨_, h, rfl⟩

theorem Inv.lt {m : Imm} {own : Own} {w : World} (h : Inv m own w) {b : Nat} (hb : b ∈ keys own) : b < w.heap.size := by
  obtain ⟨o, ho⟩ := mem_keys.1 hb
  exact heap_lt (h.mine _ ho)
theorem Inv.none_ {m : Imm} {own : Own} {w : World} (h : Inv m own w) {b : Nat} (hb : w.heap.size ≤ b) : m b = none := by
  cases hm : m b with
  | none => rfl
  | some o => have := heap_lt (h.imm _ _ hm); omega

theorem Ent.St.put {Γ : Ent} {m : Imm} {own own' : Own} {w w1 : World} {blk blk' : Bun} (h : Γ.St m own w) (hu : BUpd own blk blk' own') (t : Turned w w1 blk blk') : Γ.St m own' w1 := by
  obtain ⟨pre, post, rfl, rfl⟩ := hu.split
  have hnd := h.inv.nd
  simp only [keys_app, keys_cons] at hnd
  rw [List.nodup_append] at hnd
  obtain ⟨n1, n2, n3⟩ := hnd
  rw [List.nodup_append] at n2
  obtain ⟨n4, n5, n6⟩ := n2
  have hlt : ∀ b ∈ keys (pre ++ blk :: post), b < w.heap.size := fun b hb => h.inv.lt hb
  simp only [keys_app, keys_cons, List.mem_append] at hlt
  have hkeepOwn : ∀ b ∈ keys pre ++ keys post, w1.heap[b]? = w.heap[b]? := by
    intro b hb
    refine t.keep b (hlt b ?_) ?_
    · rcases List.mem_append.1 hb with hb | hb
      · exact .inl hb
      · exact .inr (.inr hb)
    · intro hk
      rcases List.mem_append.1 hb with hb | hb
      · exact n3 b hb b (List.mem_append_left _ hk) rfl
      · exact n6 b hk b hb rfl
  refine ⟨⟨?_, ?_, ?_, ?_⟩, t.os.trans h.os, t.tape.trans h.tape, t.output.trans h.output, Nat.le_trans h.size t.size, ?_, h.le, h.newm, ?_⟩
  · intro b o hb
    rw [t.keep b (heap_lt (h.inv.imm _ _ hb)) ?_]
    · exact h.inv.imm _ _ hb
    · intro hk
      obtain ⟨p, hp, rfl⟩ := List.mem_map.1 hk
      have := h.inv.dis p (by simp [hp])
      rw [hb] at this; cases this
  · intro p hp
    simp only [List.flatten_append, List.flatten_cons, List.mem_append] at hp
    rcases hp with hp | hp | hp
    · rw [hkeepOwn _ (List.mem_append_left _ (mem_keys.2 ⟨p.2, hp⟩))]
      exact h.inv.mine p (by simp only [List.flatten_append, List.mem_append]; exact .inl hp)
    · exact t.mine p hp
    · rw [hkeepOwn _ (List.mem_append_right _ (mem_keys.2 ⟨p.2, hp⟩))]
      exact h.inv.mine p (by simp only [List.flatten_append, List.flatten_cons, List.mem_append]; exact .inr (.inr hp))
  · intro p hp
    simp only [List.flatten_append, List.flatten_cons, List.mem_append] at hp
    rcases hp with hp | hp | hp
    · exact h.inv.dis p (by simp only [List.flatten_append, List.mem_append]; exact .inl hp)
    · rcases t.from_ p.1 (List.mem_map.2 ⟨p, hp, rfl⟩) with hk | hk
      · obtain ⟨q, hq, hqp⟩ := List.mem_map.1 hk
        rw [← hqp]
        exact h.inv.dis q (by simp [hq])
      · exact h.inv.none_ hk
    · exact h.inv.dis p (by simp only [List.flatten_append, List.flatten_cons, List.mem_append]; exact .inr (.inr hp))
  · simp only [keys_app, keys_cons]
    rw [List.nodup_append]
    refine ⟨n1, ?_, ?_⟩
    · rw [List.nodup_append]
      refine ⟨t.nd, n5, ?_⟩
      intro a ha b hb hab
      subst hab
      rcases t.from_ a ha with hk | hk
      · exact n6 a hk a hb rfl
      · have := hlt a (.inr (.inr hb)); omega
    · intro a ha b hb hab
      subst hab
      rcases List.mem_append.1 hb with hb | hb
      · rcases t.from_ a hb with hk | hk
        · exact n3 a ha a (List.mem_append_left _ hk) rfl
        · have := hlt a (.inl ha); omega
      · exact n3 a ha a (List.mem_append_right _ hb) rfl
  · intro b hb hn
    rw [t.keep b (Nat.lt_of_lt_of_le hb h.size) ?_]
    · exact h.keep b hb hn
    · intro hk
      rcases h.newo b (by simp only [keys_app, keys_cons, List.mem_append]; exact .inr (.inl hk)) with hx | hx
      · exact hn hx
      · omega
  · intro b hb
    simp only [keys_app, keys_cons, List.mem_append] at hb
    rcases hb with hb | hb | hb
    · exact h.newo b (by simp only [keys_app, List.mem_append]; exact .inl hb)
    · rcases t.from_ b hb with hk | hk
      · exact h.newo b (by simp only [keys_app, keys_cons, List.mem_append]; exact .inr (.inl hk))
      · exact .inr (Nat.le_trans h.size hk)
    · exact h.newo b (by simp only [keys_app, keys_cons, List.mem_append]; exact .inr (.inr hb))

theorem Ent.St.nil_front {Γ : Ent} {m : Imm} {own : Own} {w : World} (h : Γ.St m own w) : Γ.St m ([] :: own) w :=
  ⟨⟨h.inv.imm, by simpa using h.inv.mine, by simpa using h.inv.dis, by simpa [keys] using h.inv.nd⟩, h.os, h.tape, h.output, h.size, h.keep, h.le, h.newm, by simpa [keys] using h.newo⟩

def pushed (w : World) (o : Obj) : World := { w with heap := w.heap.push o }
theorem Turned.push (w : World) (o : Obj) : Turned w (pushed w o) [] [(w.heap.size, o)] :=
  ⟨rfl, rfl, rfl, by simp [pushed], fun b hb _ => by simp only [pushed]; rw [Array.getElem?_push, if_neg (by omega)], by
    intro p hp
    simp only [List.mem_singleton] at hp
    subst hp
    show (w.heap.push o)[w.heap.size]? = some o
    simp, by intro b hb; simp at hb; subst hb; exact .inr (Nat.le_refl _), by simp⟩

/-- A new block. -/
theorem Ent.St.push {Γ : Ent} {m : Imm} {own : Own} {w : World} (h : Γ.St m own w) (o : Obj) : Γ.St m ([(w.heap.size, o)] :: own) (pushed w o) :=
  h.nil_front.put .here (Turned.push w o)

theorem Ent.St.drewn {Γ : Ent} {m : Imm} {own : Own} {w : World} (h : Γ.St m own w) (k : Nat) : Γ.St m own { w with drawn := k } :=
  ⟨⟨h.inv.imm, h.inv.mine, h.inv.dis, h.inv.nd⟩, h.os, h.tape, h.output, h.size, h.keep, h.le, h.newm, h.newo⟩

/-- Own blocks are dropped, or put in another order. -/
theorem Ent.St.sub {Γ : Ent} {m : Imm} {own own' : Own} {w : World} (h : Γ.St m own w) (hs : own'.flatten.Sublist own.flatten) : Γ.St m own' w :=
  ⟨⟨h.inv.imm, fun p hp => h.inv.mine p (hs.subset hp), fun p hp => h.inv.dis p (hs.subset hp), (hs.map _).nodup h.inv.nd⟩,
   h.os, h.tape, h.output, h.size, h.keep, h.le, h.newm, fun b hb => h.newo b ((hs.map (·.1)).subset hb)⟩

inductive Drop : Own → Own → Prop
  | nil : Drop [] []
  | keep {x : Bun} {r r' : Own} (h : Drop r r') : Drop (x :: r) (x :: r')
  | drop {x : Bun} {r r' : Own} (h : Drop r r') : Drop (x :: r) r'
  | refl {r : Own} : Drop r r
theorem Drop.sub {o o' : Own} (h : Drop o o') : o'.flatten.Sublist o.flatten := by
  induction h with
  | nil => exact List.Sublist.refl _
  | keep _ ih => simp only [List.flatten_cons]; exact List.Sublist.append (List.Sublist.refl _) ih
  | drop _ ih => simp only [List.flatten_cons]; exact ih.trans (List.sublist_append_right _ _)
  | refl => exact List.Sublist.refl _

section
variable {P : Program} {E : Env} {n : Nat} {ds : List Deferred} {m : Imm} {own own' : Own} {ρ : Nat → Value} {ks : List Kt} {e : Exit}
theorem WK.drop (hd : Drop own own') (h : WK P E n ds m own' ρ e ks) : WK P E n ds m own ρ e ks := fun a w hf hs => h a w hf (hs.sub hd.sub)
theorem WL.drop {ops : Array Oper} {l : List Oper} (hd : Drop own own') (h : WL P E n ds m own' ρ ops l ks) : WL P E n ds m own ρ ops l ks := fun a w hf hs => h a w hf (hs.sub hd.sub)

/-- An own bundle becomes immutable. -/
theorem Ent.St.freeze {Γ : Ent} {w : World} {blk : Bun} (h : Γ.St m own w) (hu : BUpd own blk [] own') :
    ∃ m', Le m m' ∧ (∀ p ∈ blk, m' p.1 = some p.2) ∧ Γ.St m' own' w := by
  obtain ⟨pre, post, rfl, rfl⟩ := hu.split
  have hnd := h.inv.nd
  simp only [keys_app, keys_cons] at hnd
  rw [List.nodup_append] at hnd
  obtain ⟨n1, n2, n3⟩ := hnd
  rw [List.nodup_append] at n2
  obtain ⟨n4, n5, n6⟩ := n2
  let m' : Imm := fun b => if b ∈ blk.map (·.1) then w.heap[b]? else m b
  have hm' : ∀ b, b ∈ blk.map (·.1) → m' b = w.heap[b]? := fun b hb => by simp only [m']; rw [if_pos hb]
  have hm0 : ∀ b, b ∉ blk.map (·.1) → m' b = m b := fun b hb => by simp only [m']; rw [if_neg hb]
  refine ⟨m', ?_, ?_, ⟨?_, ?_, ?_, ?_⟩, h.os, h.tape, h.output, h.size, h.keep, ?_, ?_, ?_⟩
  · intro b o hb
    rw [hm0 b ?_]
    · exact hb
    · intro hk
      obtain ⟨p, hp, rfl⟩ := List.mem_map.1 hk
      have := h.inv.dis p (by simp [hp])
      rw [hb] at this; cases this
  · intro p hp
    rw [hm' _ (List.mem_map.2 ⟨p, hp, rfl⟩)]
    exact h.inv.mine p (by simp [hp])
  · intro b o hb
    by_cases hk : b ∈ blk.map (·.1)
    · rw [hm' b hk] at hb; exact hb
    · rw [hm0 b hk] at hb; exact h.inv.imm _ _ hb
  · intro p hp
    refine h.inv.mine p ?_
    simp only [List.flatten_append, List.flatten_cons, List.mem_append, List.nil_append] at hp ⊢
    rcases hp with hp | hp
    · exact .inl hp
    · exact .inr (.inr hp)
  · intro p hp
    have hp' : p ∈ (pre ++ blk :: post).flatten := by
      simp only [List.flatten_append, List.flatten_cons, List.mem_append, List.nil_append] at hp ⊢
      rcases hp with hp | hp
      · exact .inl hp
      · exact .inr (.inr hp)
    rw [hm0 _ ?_]
    · exact h.inv.dis p hp'
    · intro hk
      simp only [List.flatten_append, List.flatten_cons, List.mem_append, List.nil_append] at hp
      rcases hp with hp | hp
      · exact n3 p.1 (mem_keys.2 ⟨p.2, hp⟩) p.1 (List.mem_append_left _ hk) rfl
      · exact n6 p.1 hk p.1 (mem_keys.2 ⟨p.2, hp⟩) rfl
  · simp only [keys_app, keys_cons, List.map_nil, List.nil_append]
    rw [List.nodup_append]
    exact ⟨n1, n5, fun a ha b hb => n3 a ha b (List.mem_append_right _ hb)⟩
  · intro b o hb
    rw [hm0 b ?_]
    · exact h.le _ _ hb
    · intro hk
      obtain ⟨p, hp, rfl⟩ := List.mem_map.1 hk
      have := h.inv.dis p (by simp [hp])
      rw [h.le _ _ hb] at this; cases this
  · intro b hb
    by_cases hk : b ∈ blk.map (·.1)
    · rcases h.newo b (by simp only [keys_app, keys_cons, List.mem_append]; exact .inr (.inl hk)) with hx | hx
      · exact .inr (.inl hx)
      · exact .inr (.inr hx)
    · rw [hm0 b hk] at hb; exact h.newm b hb
  · intro b hb
    refine h.newo b ?_
    simp only [keys_app, keys_cons, List.map_nil, List.nil_append, List.mem_append] at hb ⊢
    rcases hb with hb | hb
    · exact .inl hb
    · exact .inr (.inr hb)
theorem WK.freeze {blk : Bun} (hu : BUpd own blk [] own') (h : ∀ m', Le m m' → (∀ p ∈ blk, m' p.1 = some p.2) → WK P E n ds m' own' ρ e ks) : WK P E n ds m own ρ e ks := by
  intro a w hf hs
  obtain ⟨m', h1, h2, h3⟩ := hs.freeze hu
  exact h m' h1 h2 a w hf h3
theorem WL.freeze {ops : Array Oper} {l : List Oper} {blk : Bun} (hu : BUpd own blk [] own') (h : ∀ m', Le m m' → (∀ p ∈ blk, m' p.1 = some p.2) → WL P E n ds m' own' ρ ops l ks) : WL P E n ds m own ρ ops l ks := by
  intro a w hf hs
  obtain ⟨m', h1, h2, h3⟩ := hs.freeze hu
  exact h m' h1 h2 a w hf h3
end

/-! ## Facts on types -/
def tyOf (P : Program) (t : TypeId) : Option (Bool × Nat × Nat × Value) :=
  match P.underlying t, P.info? t with
  | some d, some i => match i.zero with
    | some z => some (match d with | .struct _ | .array _ _ => true | _ => false, i.size, i.bytes, z)
    | none => none
  | _, _ => none
class Ty (P : Program) (t : TypeId) (agg : outParam Bool) (k bytes : outParam Nat) (z : outParam Value) : Prop where
  ok : tyOf P t = some (agg, k, bytes, z)
class Und (P : Program) (t : TypeId) (d : outParam TypeDesc) : Prop where
  ok : P.underlying t = some d
def fldOf (P : Program) (s f : Nat) : Option Nat :=
  match P.underlying s with
  | some (.struct fs) => match fs[f]? with
    | some x => match P.info? x.type with
      | some i => if i.size = 0 then none else some x.offset
      | none => none
    | none => none
  | _ => none
class Fld (P : Program) (s f : Nat) (off : outParam Nat) : Prop where
  ok : fldOf P s f = some off
def fnOf (P : Program) (f : FuncId) : Bool :=
  match P.funcs[f]? with
  | some fn => fn.body.isSome && !(fn.name == "runtime.NumGoroutine")
  | none => false
class IsFn (P : Program) (f : FuncId) : Prop where
  ok : fnOf P f = true

section
variable {P : Program} {t : TypeId} {agg : Bool} {k bytes : Nat} {z : Value}
theorem Ty.parts (h : Ty P t agg k bytes z) : ∃ d i, P.underlying t = some d ∧ P.info? t = some i ∧ i.zero = some z ∧ i.size = k ∧ i.bytes = bytes ∧ (match d with | .struct _ | .array _ _ => true | _ => false) = agg := by
  have h := h.ok
  unfold tyOf at h
  cases hd : P.underlying t with
  | none => rw [hd] at h; simp at h
  | some d =>
    cases hi : P.info? t with
    | none => rw [hd, hi] at h; simp at h
    | some i =>
      rw [hd, hi] at h
      simp only at h
      cases hz : i.zero with
      | none => rw [hz] at h; simp at h
      | some z' =>
        rw [hz] at h
        simp only [Option.some.injEq, Prod.mk.injEq] at h
        obtain ⟨h1, h2, h3, h4⟩ := h
        exact ⟨d, i, rfl, rfl, by rw [hz, h4], h2, h3, h1⟩
theorem Ty.size (h : Ty P t agg k bytes z) (w : World) : (sizeOf t).run P w = .ok k w := by
  obtain ⟨d, i, h1, h2, h3, h4, h5, h6⟩ := h.parts
  simp [sizeOf, typeInfo, h2, h4]
theorem Ty.info (h : Ty P t agg k bytes z) (w : World) : ∃ i, (typeInfo t).run P w = .ok i w ∧ i.bytes = bytes ∧ i.size = k := by
  obtain ⟨d, i, h1, h2, h3, h4, h5, h6⟩ := h.parts
  exact ⟨i, by simp [typeInfo, h2], h5, h4⟩
theorem Ty.zero (h : Ty P t agg k bytes z) (w : World) : (zeroValue t).run P w = .ok z w := by
  obtain ⟨d, i, h1, h2, h3, h4, h5, h6⟩ := h.parts
  simp [zeroValue, typeInfo, h2, h3]
theorem Ty.isAgg (h : Ty P t agg k bytes z) (w : World) : (isAgg t).run P w = .ok agg w := by
  obtain ⟨d, i, h1, h2, h3, h4, h5, h6⟩ := h.parts
  subst h6
  simp only [Go.isAgg, Sem.run_bind, run_underlying h1]
  cases d <;> rfl
end

/-! ## Reading -/
/-- Which blocks can be read: the immutable ones and one's own. -/
def Rd (m : Imm) (own : Own) (b : Nat) (o : Obj) : Prop := m b = some o ∨ (b, o) ∈ own.flatten
theorem Ent.St.rd {Γ : Ent} {m : Imm} {own : Own} {w : World} (h : Γ.St m own w) {b : Nat} {o : Obj} (hr : Rd m own b o) : w.heap[b]? = some o := by
  rcases hr with hr | hr
  · exact h.inv.imm _ _ hr
  · exact h.inv.mine _ hr
theorem Rd.le {m m' : Imm} {own : Own} (h : Le m m') {b : Nat} {o : Obj} (hr : Rd m own b o) : Rd m' own b o := hr.imp (h _ _) id
theorem Rd.imm {m : Imm} {own : Own} {b : Nat} {o : Obj} (hr : m b = some o) : Rd m own b o := .inl hr

/-- Cells from a place on. -/
def Seg (R : Nat → Obj → Prop) (b off : Nat) (cs : List Value) : Prop :=
  ∃ arr t fz, R b (.cells arr t fz) ∧ ∀ (i : Nat) v, cs[i]? = some v → arr[off + i]? = some v
def PtE (R : Nat → Obj → Prop) (p : Value) (cs : List Value) : Prop := ∃ b off, p = .pointer (some ⟨b, off, none⟩) ∧ Seg R b off cs
/-- An element of k cells. -/
def Fit (k : Nat) (x : Value) : Prop := x.cells.size = k ∧ ∀ c ∈ x.cells.toList, c.oneCell' = true
def Fits (k : Nat) : List Value → Prop
  | [] => True
  | x :: xs => Fit k x ∧ Fits k xs
theorem Fits.all {k : Nat} : ∀ {xs : List Value}, Fits k xs → ∀ x ∈ xs, Fit k x
  | x :: xs, h, y, hy => by
    rcases List.mem_cons.1 hy with rfl | hy
    · exact h.1
    · exact Fits.all h.2 y hy
theorem Fit.one {v : Value} (h : v.oneCell' = true) : Fit 1 v := by
  have hc : v.cells = #[v] := by cases v <;> first | rfl | (simp [Value.oneCell'] at h)
  rw [Fit, hc]
  exact ⟨rfl, by simpa using h⟩
/-- A slice whose elements read as xs, k cells each. -/
def Sl (R : Nat → Obj → Prop) (k : Nat) (v : Value) (xs : List Value) : Prop :=
  ∃ a cap, v = .slice a xs.length cap ∧ xs.length ≤ cap ∧ (∀ x ∈ xs, Fit k x) ∧
    (xs ≠ [] → ∃ b off arr t fz, a = some ⟨b, off, none⟩ ∧ R b (.cells arr t fz) ∧ ∀ (j : Nat) x, xs[j]? = some x → ∀ (i : Nat) c, x.cells[i]? = some c → arr[off + j * k + i]? = some c)
/-- A slice that the call owns; blk: its block, or none. -/
def OSl (blk : Bun) (k : Nat) (t : TypeId) (v : Value) (xs : List Value) : Prop :=
  (blk = [] ∧ xs = [] ∧ ∃ a, v = .slice a 0 0) ∨
  ∃ b arr cap fz, blk = [(b, .cells arr t fz)] ∧ v = .slice (some ⟨b, 0, none⟩) xs.length cap ∧ xs.length ≤ cap ∧ arr.size = cap * k ∧ (∀ i, i < arr.size → (fz.1 ≤ i && i < fz.2) = false) ∧
    (∀ x ∈ xs, Fit k x) ∧ ∀ (j : Nat) x, xs[j]? = some x → ∀ (i : Nat) c, x.cells[i]? = some c → arr[j * k + i]? = some c

section
variable {R R' : Nat → Obj → Prop} {k : Nat} {v : Value} {xs : List Value}
theorem Sl.mono (hR : ∀ b o, R b o → R' b o) (h : Sl R k v xs) : Sl R' k v xs := by
  obtain ⟨a, cap, h1, h2, h3, h4⟩ := h
  refine ⟨a, cap, h1, h2, h3, fun hx => ?_⟩
  obtain ⟨b, off, arr, t, fz, e1, e2, e3⟩ := h4 hx
  exact ⟨b, off, arr, t, fz, e1, hR _ _ e2, e3⟩
theorem PtE.mono {p : Value} {cs : List Value} (hR : ∀ b o, R b o → R' b o) (h : PtE R p cs) : PtE R' p cs := by
  obtain ⟨b, off, e, arr, t, fz, h1, h2⟩ := h
  exact ⟨b, off, e, arr, t, fz, hR _ _ h1, h2⟩
theorem Sl.nil (R : Nat → Obj → Prop) (k : Nat) (a : Option Addr) : Sl R k (.slice a 0 0) [] := ⟨a, 0, rfl, Nat.le_refl _, by simp, fun h => absurd rfl h⟩
theorem Sl.shape (h : Sl R k v xs) : ∃ a cap, v = .slice a xs.length cap ∧ xs.length ≤ cap := by
  obtain ⟨a, cap, h1, h2, _, _⟩ := h; exact ⟨a, cap, h1, h2⟩
theorem OSl.shape {blk : Bun} {t : TypeId} (h : OSl blk k t v xs) : ∃ a cap, v = .slice a xs.length cap ∧ xs.length ≤ cap := by
  rcases h with ⟨_, rfl, a, rfl⟩ | ⟨b, arr, cap, fz, _, h2, h3, _⟩
  · exact ⟨a, 0, rfl, Nat.le_refl _⟩
  · exact ⟨_, cap, h2, h3⟩
theorem OSl.sl {blk : Bun} {t : TypeId} (h : OSl blk k t v xs) (hR : ∀ p ∈ blk, R p.1 p.2) : Sl R k v xs := by
  rcases h with ⟨_, rfl, a, rfl⟩ | ⟨b, arr, cap, fz, hb, h2, h3, h4, h5, h6, h7⟩
  · exact Sl.nil _ _ _
  · subst hb
    exact ⟨_, cap, h2, h3, h6, fun _ => ⟨b, 0, arr, t, fz, rfl, hR (b, _) (by simp), fun j x hj i c hc => by rw [Nat.zero_add]; exact h7 j x hj i c hc⟩⟩
theorem OSl.nil (k : Nat) (t : TypeId) (a : Option Addr) : OSl [] k t (.slice a 0 0) [] := .inl ⟨rfl, rfl, a, rfl⟩
/-- s[lo:hi], by its capacity or not. -/
theorem Sl.cut {a : Option Addr} {len cap lo hi : Nat} (h : Sl R k (.slice a len cap) xs) (h1 : lo ≤ hi) (h2 : hi ≤ len) (mx : Nat) (hm : hi ≤ mx) :
    Sl R k (.slice (if mx = lo then a else a.map (·.add (lo * k))) (hi - lo) (mx - lo)) ((xs.take hi).drop lo) := by
  obtain ⟨a', cap', e1, e2, e3, e4⟩ := h
  injection e1 with e1 e5 e6
  subst e1; subst e5; subst e6
  have hlen : ((xs.take hi).drop lo).length = hi - lo := by simp [List.length_drop, List.length_take]; omega
  refine ⟨_, mx - lo, by rw [hlen], by omega, fun x hx => e3 x (List.mem_of_mem_take (List.mem_of_mem_drop hx)), fun hne => ?_⟩
  have hlt : lo < hi := by
    rcases Nat.lt_or_ge lo hi with h | h
    · exact h
    · exact absurd (List.eq_nil_of_length_eq_zero (by rw [hlen]; omega)) hne
  obtain ⟨b, off, arr, t, fz, rfl, hb, hc⟩ := e4 (by intro e; subst e; simp at h2; omega)
  rw [if_neg (by omega)]
  refine ⟨b, off + lo * k, arr, t, fz, ?_, hb, ?_⟩
  · simp only [Option.map_some, Addr.add]
    split
    · rename_i h0; rw [h0]; rfl
    · rfl
  · intro j x hj i c hi
    rw [List.getElem?_drop] at hj
    have hj' : xs[lo + j]? = some x := by
      rw [List.getElem?_take] at hj
      split at hj
      · exact hj
      · cases hj
    have := hc _ _ hj' i c hi
    rw [Nat.add_mul] at this
    rw [← this]
    congr 1
    omega
theorem PtE.rd {m m' : Imm} {own : Own} {p : Value} {cs : List Value} (h : PtE (fun b o => m b = some o) p cs) (hm : Le m m') : PtE (Rd m' own) p cs := h.mono fun _ _ hb => .inl (hm _ _ hb)
theorem Sl.rd {m m' : Imm} {own : Own} (h : Sl (fun b o => m b = some o) k v xs) (hm : Le m m') : Sl (Rd m' own) k v xs := h.mono fun _ _ hb => .inl (hm _ _ hb)
theorem Sl.le {m m' : Imm} (h : Sl (fun b o => m b = some o) k v xs) (hm : Le m m') : Sl (fun b o => m' b = some o) k v xs := h.mono fun _ _ hb => hm _ _ hb
end
end Go.SL
