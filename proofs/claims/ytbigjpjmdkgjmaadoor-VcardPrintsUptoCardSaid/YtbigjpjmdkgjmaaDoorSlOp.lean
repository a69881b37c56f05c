/- Rules of the separation-logic layer for operations that only compute. -/
import Derived.Test.YtbigjpjmdkgjmaaDoorSl
import Derived.IntWalk
namespace Go.SL
open Go

/-- A text; a byte. -/
def str (l : List UInt8) : Value := .string ⟨l.toArray⟩
def byt (c : UInt8) : Value := .int .u8 (c.toNat : Int)

theorem str_of (s : ByteArray) : Value.string s = str s.data.toList := by simp [str]
theorem toList_mk (l : List UInt8) : (ByteArray.mk l.toArray).toList = l := by
  have : ∀ s : ByteArray, s.toList = s.data.toList := by
    intro s
    exact ByteArray_toList s
  rw [this]
where
  ByteArray_toList (s : ByteArray) : s.toList = s.data.toList := by
    unfold ByteArray.toList
    have key : ∀ (k i : Nat) (r : List UInt8), s.size - i = k → ByteArray.toList.loop s i r = r.reverse ++ s.data.toList.drop i := by
      intro k
      induction k with
      | zero =>
        intro i r hk
        unfold ByteArray.toList.loop
        have hs : s.size = s.data.size := rfl
        rw [if_neg (by omega), List.drop_eq_nil_of_le (by simp; omega)]
        simp
      | succ k ih =>
        intro i r hk
        unfold ByteArray.toList.loop
        have hs : s.size = s.data.size := rfl
        rw [if_pos (by omega), ih (i + 1) _ (by omega)]
        have hi : i < s.data.toList.length := by simp; omega
        rw [List.drop_eq_getElem_cons hi]
        have : s.get! i = s.data.toList[i] := by
          simp [ByteArray.get!, getElem!_pos s.data i (by simpa using hi)]
        simp [this]
    simpa using key _ 0 [] rfl

theorem bytes_beq (a b : List UInt8) : ((ByteArray.mk a.toArray).toList == (ByteArray.mk b.toArray).toList) = decide (a = b) := by
  rw [toList_mk, toList_mk]
  by_cases h : a = b <;> simp [h]
theorem ba_beq (a b : List UInt8) : ((ByteArray.mk a.toArray) == (ByteArray.mk b.toArray)) = decide (a = b) := by
  have h0 : ((ByteArray.mk a.toArray) == (ByteArray.mk b.toArray)) = (a.toArray == b.toArray) := rfl
  rw [h0]
  by_cases h : a = b <;> simp [h]

section
variable {P : Program} {E : Env} {n : Nat} {ds : List Deferred} {m : Imm} {own : Own} {ρ : Nat → Value} {ks : List Kt} {ops : Array Oper} {rest : List Oper}
variable {d : Nat} {ty : TypeId} {pos : String} {af : Array Edge} {x y : Operand} {tx tz : TypeId}

theorem wpl_plain {F : Fence} {Q : Exit → Act → World → Prop} {o : Oper} {a : Act} {w : World} (hg : o.guard = none) (h : o.wpIn F 0 P a w (wpListIn F 0 P ops Q rest) Q) : wpListIn F 0 P ops Q (o :: rest) a w := by
  unfold wpListIn
  rw [if_pos (by simp [Region.wanted, hg])]
  exact h

/-- The one step: an operation that yields a value; what it leaves. -/
theorem WL.step {op : Op} (hd : Nat.blt d n = true) (hnd : ∀ c, op ≠ .defer c)
    (h : ∀ w, E.Γ.St m own w → ∃ v w' m' own', (execOp (ev ρ) ⟨some d, op, ty, pos, af, none⟩).run P w = .ok (.value v) w' ∧ E.Γ.St m' own' w' ∧ WL P E n ds m' own' (upd ρ d v) ops rest ks) :
    WL P E n ds m own ρ ops (⟨some d, op, ty, pos, af, none⟩ :: rest) ks := by
  intro a w hf hs
  obtain ⟨v, w', m', own', hrun, hs', hk⟩ := h w hs
  refine wpl_plain rfl ⟨fun _ _ => trivial, ?_⟩
  rw [Oper.semAt_eq _ _ _ hnd, hf.eval, hrun]
  exact hk _ _ (hf.put hd v) hs'

theorem WL.stepNone {op : Op} (hnd : ∀ c, op ≠ .defer c)
    (h : ∀ w, E.Γ.St m own w → ∃ w' m' own', ((execOp (ev ρ) ⟨none, op, ty, pos, af, none⟩).run P w = .ok .skip w' ∨ ∃ v, (execOp (ev ρ) ⟨none, op, ty, pos, af, none⟩).run P w = .ok (.value v) w') ∧ E.Γ.St m' own' w' ∧ WL P E n ds m' own' ρ ops rest ks) :
    WL P E n ds m own ρ ops (⟨none, op, ty, pos, af, none⟩ :: rest) ks := by
  intro a w hf hs
  obtain ⟨w', m', own', hrun, hs', hk⟩ := h w hs
  refine wpl_plain rfl ⟨fun _ _ => trivial, ?_⟩
  rw [Oper.semAt_eq _ _ _ hnd, hf.eval]
  rcases hrun with hrun | ⟨v, hrun⟩
  · rw [hrun]; exact hk _ _ hf hs'
  · rw [hrun]; exact hk _ _ hf hs'

theorem WL.pure {op : Op} {v : Value} (hd : Nat.blt d n = true) (hnd : ∀ c, op ≠ .defer c)
    (hrun : ∀ w, (execOp (ev ρ) ⟨some d, op, ty, pos, af, none⟩).run P w = .ok (.value v) w) (h : WL P E n ds m own (upd ρ d v) ops rest ks) :
    WL P E n ds m own ρ ops (⟨some d, op, ty, pos, af, none⟩ :: rest) ks :=
  WL.step hd hnd fun w hs => ⟨v, w, m, own, hrun w, hs, h⟩

/-! Guards -/
def yl (ops : Array Oper) (ρ : Nat → Value) (j : Nat) : Option Bool :=
  match (ops[j]?).bind (·.dst) with
  | some t => match ρ t with | .bool b => some b | _ => none
  | none => none
theorem yielded_yl {a : Act} (hf : FrameIs n ds ρ a) (j : Nat) (b : Bool) (h : yl ops ρ j = some b) : yielded ops a.tmps j = some b := by
  unfold yl at h
  unfold yielded
  cases hd : (ops[j]?).bind (·.dst) with
  | none => rw [hd] at h; cases h
  | some t =>
    rw [hd] at h
    simp only at h
    have hs := hf.slot t
    rw [Array.getD_eq_getD_getElem?] at hs
    cases ht : a.tmps[t]? with
    | none =>
      rw [ht] at hs
      simp only [Option.getD_none] at hs
      rw [← hs] at h
      cases h
    | some v =>
      rw [ht] at hs
      simp only [Option.getD_some] at hs
      subst hs
      simp only [Option.bind_some, ht]
      split at h
      · rename_i b' hb
        rw [hb]
        exact h
      · cases h
theorem WL.guard {op : Op} {j : Nat} {b want : Bool} {dst : Option Tmp} (hj : yl ops ρ j = some b) (hb : b = want) (h : WL P E n ds m own ρ ops (⟨dst, op, ty, pos, af, none⟩ :: rest) ks) :
    WL P E n ds m own ρ ops (⟨dst, op, ty, pos, af, some (j, want)⟩ :: rest) ks := by
  intro a w hf hs
  have h1 := h a w hf hs
  unfold wpListIn at h1 ⊢
  rw [if_pos (by simp [Region.wanted])] at h1
  rw [if_pos (by simp [Region.wanted, yielded_yl hf j b hj, hb])]
  exact h1
theorem WL.guardSkip {op : Op} {j : Nat} {b want : Bool} (hj : yl ops ρ j = some b) (hb : b = !want) (hd : Nat.blt d n = true) (h : WL P E n ds m own (upd ρ d undef) ops rest ks) :
    WL P E n ds m own ρ ops (⟨some d, op, ty, pos, af, some (j, want)⟩ :: rest) ks := by
  intro a w hf hs
  unfold wpListIn
  rw [if_neg (by simp [Region.wanted, yielded_yl hf j b hj, hb])]
  exact ⟨fun _ _ => trivial, h _ _ (hf.put hd _) hs⟩
theorem WL.guardNone {op : Op} {j : Nat} {want : Bool} (hj : yl ops ρ j = none) (hd : Nat.blt d n = true) (h : WL P E n ds m own (upd ρ d undef) ops rest ks) :
    WL P E n ds m own ρ ops (⟨some d, op, ty, pos, af, some (j, want)⟩ :: rest) ks := by
  intro a w hf hs
  have hy : yielded ops a.tmps j = none := by
    unfold yl at hj
    unfold yielded
    cases hd : (ops[j]?).bind (·.dst) with
    | none => rfl
    | some t =>
      rw [hd] at hj
      simp only at hj
      have hs := hf.slot t
      rw [Array.getD_eq_getD_getElem?] at hs
      simp only [Option.bind_some]
      cases ht : a.tmps[t]? with
      | none => rfl
      | some v =>
        rw [ht] at hs
        simp only [Option.getD_some] at hs
        subst hs
        generalize ρ t = v at hj ht ⊢
        cases v <;> first | rfl | (simp at hj)
  unfold wpListIn
  rw [if_neg (by simp [Region.wanted, hy])]
  exact ⟨fun _ _ => trivial, h _ _ (hf.put hd _) hs⟩
theorem WL.guardSplit {op : Op} {j : Nat} {b want : Bool} (hj : yl ops ρ j = some b) (hd : Nat.blt d n = true)
    (h1 : b = want → WL P E n ds m own ρ ops (⟨some d, op, ty, pos, af, none⟩ :: rest) ks)
    (h2 : b = !want → WL P E n ds m own (upd ρ d undef) ops rest ks) :
    WL P E n ds m own ρ ops (⟨some d, op, ty, pos, af, some (j, want)⟩ :: rest) ks := by
  by_cases hb : b = want
  · exact WL.guard hj hb (h1 hb)
  · have hb' : b = !want := by cases b <;> cases want <;> simp_all
    exact WL.guardSkip hj hb' hd (h2 hb')

theorem WL.move (hd : Nat.blt d n = true) (h : WL P E n ds m own (upd ρ d (ev ρ x)) ops rest ks) : WL P E n ds m own ρ ops (⟨some d, .move x, ty, pos, af, none⟩ :: rest) ks :=
  WL.pure hd (by simp) (fun _ => rfl) h
theorem WL.assign (hd : Nat.blt d n = true) (h : WL P E n ds m own (upd ρ d (ev ρ x)) ops rest ks) : WL P E n ds m own ρ ops (⟨some d, .assign x, ty, pos, af, none⟩ :: rest) ks :=
  WL.pure hd (by simp) (fun _ => rfl) h
theorem WL.mvI {k : IntKind} {a : Int} (hd : Nat.blt d n = true) (hx : ev ρ x = .int k a) (h : WL P E n ds m own (upd ρ d (.int k a)) ops rest ks) : WL P E n ds m own ρ ops (⟨some d, .move x, ty, pos, af, none⟩ :: rest) ks := by
  refine WL.move hd ?_; rw [hx]; exact h
theorem WL.mvB {b : Bool} (hd : Nat.blt d n = true) (hx : ev ρ x = .bool b) (h : WL P E n ds m own (upd ρ d (.bool b)) ops rest ks) : WL P E n ds m own ρ ops (⟨some d, .move x, ty, pos, af, none⟩ :: rest) ks := by
  refine WL.move hd ?_; rw [hx]; exact h
theorem WL.mvS {l : List UInt8} (hd : Nat.blt d n = true) (hx : ev ρ x = str l) (h : WL P E n ds m own (upd ρ d (str l)) ops rest ks) : WL P E n ds m own ρ ops (⟨some d, .move x, ty, pos, af, none⟩ :: rest) ks := by
  refine WL.move hd ?_; rw [hx]; exact h
theorem WL.mvL {a : Option Addr} {len cap : Nat} (hd : Nat.blt d n = true) (hx : ev ρ x = .slice a len cap) (h : WL P E n ds m own (upd ρ d (.slice a len cap)) ops rest ks) : WL P E n ds m own ρ ops (⟨some d, .move x, ty, pos, af, none⟩ :: rest) ks := by
  refine WL.move hd ?_; rw [hx]; exact h
theorem WL.mvP {q : Option Addr} (hd : Nat.blt d n = true) (hx : ev ρ x = .pointer q) (h : WL P E n ds m own (upd ρ d (.pointer q)) ops rest ks) : WL P E n ds m own ρ ops (⟨some d, .move x, ty, pos, af, none⟩ :: rest) ks := by
  refine WL.move hd ?_; rw [hx]; exact h
theorem WL.mvA {cs : Array Value} (hd : Nat.blt d n = true) (hx : ev ρ x = .agg cs) (h : WL P E n ds m own (upd ρ d (.agg cs)) ops rest ks) : WL P E n ds m own ρ ops (⟨some d, .move x, ty, pos, af, none⟩ :: rest) ks := by
  refine WL.move hd ?_; rw [hx]; exact h
theorem WL.mvF {fn : Fn} {first captured : Array Value} (hd : Nat.blt d n = true) (hx : ev ρ x = .func fn first captured) (h : WL P E n ds m own (upd ρ d (.func fn first captured)) ops rest ks) : WL P E n ds m own ρ ops (⟨some d, .move x, ty, pos, af, none⟩ :: rest) ks := by
  refine WL.move hd ?_; rw [hx]; exact h
theorem WL.mvT {vs : Array Value} (hd : Nat.blt d n = true) (hx : ev ρ x = .tuple vs) (h : WL P E n ds m own (upd ρ d (.tuple vs)) ops rest ks) : WL P E n ds m own ρ ops (⟨some d, .move x, ty, pos, af, none⟩ :: rest) ks := by
  refine WL.move hd ?_; rw [hx]; exact h
theorem WL.mvM {q : Option Nat} (hd : Nat.blt d n = true) (hx : ev ρ x = .map q) (h : WL P E n ds m own (upd ρ d (.map q)) ops rest ks) : WL P E n ds m own ρ ops (⟨some d, .move x, ty, pos, af, none⟩ :: rest) ks := by
  refine WL.move hd ?_; rw [hx]; exact h
theorem WL.mvC {v : Value} (hd : Nat.blt d n = true) (h : WL P E n ds m own (upd ρ d v) ops rest ks) : WL P E n ds m own ρ ops (⟨some d, .move (.const v), ty, pos, af, none⟩ :: rest) ks := WL.move hd h
theorem WL.asI {k : IntKind} {a : Int} (hd : Nat.blt d n = true) (hx : ev ρ x = .int k a) (h : WL P E n ds m own (upd ρ d (.int k a)) ops rest ks) : WL P E n ds m own ρ ops (⟨some d, .assign x, ty, pos, af, none⟩ :: rest) ks := by
  refine WL.assign hd ?_; rw [hx]; exact h
theorem WL.asB {b : Bool} (hd : Nat.blt d n = true) (hx : ev ρ x = .bool b) (h : WL P E n ds m own (upd ρ d (.bool b)) ops rest ks) : WL P E n ds m own ρ ops (⟨some d, .assign x, ty, pos, af, none⟩ :: rest) ks := by
  refine WL.assign hd ?_; rw [hx]; exact h
theorem WL.asS {l : List UInt8} (hd : Nat.blt d n = true) (hx : ev ρ x = str l) (h : WL P E n ds m own (upd ρ d (str l)) ops rest ks) : WL P E n ds m own ρ ops (⟨some d, .assign x, ty, pos, af, none⟩ :: rest) ks := by
  refine WL.assign hd ?_; rw [hx]; exact h
theorem WL.asL {a : Option Addr} {len cap : Nat} (hd : Nat.blt d n = true) (hx : ev ρ x = .slice a len cap) (h : WL P E n ds m own (upd ρ d (.slice a len cap)) ops rest ks) : WL P E n ds m own ρ ops (⟨some d, .assign x, ty, pos, af, none⟩ :: rest) ks := by
  refine WL.assign hd ?_; rw [hx]; exact h
theorem WL.asP {q : Option Addr} (hd : Nat.blt d n = true) (hx : ev ρ x = .pointer q) (h : WL P E n ds m own (upd ρ d (.pointer q)) ops rest ks) : WL P E n ds m own ρ ops (⟨some d, .assign x, ty, pos, af, none⟩ :: rest) ks := by
  refine WL.assign hd ?_; rw [hx]; exact h
theorem WL.asA {cs : Array Value} (hd : Nat.blt d n = true) (hx : ev ρ x = .agg cs) (h : WL P E n ds m own (upd ρ d (.agg cs)) ops rest ks) : WL P E n ds m own ρ ops (⟨some d, .assign x, ty, pos, af, none⟩ :: rest) ks := by
  refine WL.assign hd ?_; rw [hx]; exact h
theorem WL.asF {fn : Fn} {first captured : Array Value} (hd : Nat.blt d n = true) (hx : ev ρ x = .func fn first captured) (h : WL P E n ds m own (upd ρ d (.func fn first captured)) ops rest ks) : WL P E n ds m own ρ ops (⟨some d, .assign x, ty, pos, af, none⟩ :: rest) ks := by
  refine WL.assign hd ?_; rw [hx]; exact h
theorem WL.asT {vs : Array Value} (hd : Nat.blt d n = true) (hx : ev ρ x = .tuple vs) (h : WL P E n ds m own (upd ρ d (.tuple vs)) ops rest ks) : WL P E n ds m own ρ ops (⟨some d, .assign x, ty, pos, af, none⟩ :: rest) ks := by
  refine WL.assign hd ?_; rw [hx]; exact h
theorem WL.asM {q : Option Nat} (hd : Nat.blt d n = true) (hx : ev ρ x = .map q) (h : WL P E n ds m own (upd ρ d (.map q)) ops rest ks) : WL P E n ds m own ρ ops (⟨some d, .assign x, ty, pos, af, none⟩ :: rest) ks := by
  refine WL.assign hd ?_; rw [hx]; exact h
theorem WL.asC {v : Value} (hd : Nat.blt d n = true) (h : WL P E n ds m own (upd ρ d v) ops rest ks) : WL P E n ds m own ρ ops (⟨some d, .assign (.const v), ty, pos, af, none⟩ :: rest) ks := WL.assign hd h
theorem WL.pick {c : Operand} {b : Bool} (hd : Nat.blt d n = true) (hc : ev ρ c = .bool b) (h : WL P E n ds m own (upd ρ d (bif b then ev ρ x else ev ρ y)) ops rest ks) :
    WL P E n ds m own ρ ops (⟨some d, .pick c x y, ty, pos, af, none⟩ :: rest) ks :=
  WL.pure hd (by simp) (fun _ => by cases b <;> simp [execOp, hc, asBool]) h
/-- and, or: the second operand was worked out. -/
theorem WL.pickB {c : Operand} {b p q : Bool} (hd : Nat.blt d n = true) (hc : ev ρ c = .bool b) (hx : ev ρ x = .bool p) (hy : ev ρ y = .bool q) (h : WL P E n ds m own (upd ρ d (.bool (bif b then p else q))) ops rest ks) :
    WL P E n ds m own ρ ops (⟨some d, .pick c x y, ty, pos, af, none⟩ :: rest) ks :=
  WL.pure hd (by simp) (fun _ => by cases b <;> simp [execOp, hc, hx, hy, asBool]) h
theorem WL.pickT {c : Operand} {b p : Bool} (hd : Nat.blt d n = true) (hc : ev ρ c = .bool b) (hb : b = true) (hx : ev ρ x = .bool p) (h : WL P E n ds m own (upd ρ d (.bool p)) ops rest ks) :
    WL P E n ds m own ρ ops (⟨some d, .pick c x y, ty, pos, af, none⟩ :: rest) ks := by
  subst hb; refine WL.pick hd hc ?_; rw [hx]; exact h
theorem WL.pickF {c : Operand} {b p : Bool} (hd : Nat.blt d n = true) (hc : ev ρ c = .bool b) (hb : b = false) (hy : ev ρ y = .bool p) (h : WL P E n ds m own (upd ρ d (.bool p)) ops rest ks) :
    WL P E n ds m own ρ ops (⟨some d, .pick c x y, ty, pos, af, none⟩ :: rest) ks := by
  subst hb; refine WL.pick hd hc ?_; rw [hy]; exact h
theorem WL.extract {vs : Array Value} {v : Value} {i : Nat} (hd : Nat.blt d n = true) (hx : ev ρ x = .tuple vs) (hv : vs[i]? = some v) (h : WL P E n ds m own (upd ρ d v) ops rest ks) :
    WL P E n ds m own ρ ops (⟨some d, .extract x i, ty, pos, af, none⟩ :: rest) ks :=
  WL.pure hd (by simp) (fun _ => by simp [execOp, Instr.extract, hx, hv]) h
theorem WL.makeFunc {fn : Fn} {first captured : Array Operand} (hd : Nat.blt d n = true) (h : WL P E n ds m own (upd ρ d (.func fn (first.map (ev ρ)) (captured.map (ev ρ)))) ops rest ks) :
    WL P E n ds m own ρ ops (⟨some d, .makeFunc fn first captured, ty, pos, af, none⟩ :: rest) ks :=
  WL.pure hd (by simp) (fun _ => by simp [execOp, Instr.makeFunc]) h
theorem WL.not {b : Bool} (hd : Nat.blt d n = true) (hx : ev ρ x = .bool b) (h : WL P E n ds m own (upd ρ d (.bool (!b))) ops rest ks) :
    WL P E n ds m own ρ ops (⟨some d, .unOp .not tx x, ty, pos, af, none⟩ :: rest) ks :=
  WL.pure hd (by simp) (fun _ => by simp [execOp, Op.unary, hx]) h
theorem WL.lss {k : IntKind} {a b : Int} (hd : Nat.blt d n = true) (hx : ev ρ x = .int k a) (hy : ev ρ y = .int k b) (h : WL P E n ds m own (upd ρ d (.bool (decide (a < b)))) ops rest ks) :
    WL P E n ds m own ρ ops (⟨some d, .binOp .lss tx x y tz, ty, pos, af, none⟩ :: rest) ks :=
  WL.pure hd (by simp) (fun _ => by simp [execOp, hx, hy, binOp, eqGuard, Op.intCmp]) h
theorem WL.leq {k : IntKind} {a b : Int} (hd : Nat.blt d n = true) (hx : ev ρ x = .int k a) (hy : ev ρ y = .int k b) (h : WL P E n ds m own (upd ρ d (.bool (decide (a ≤ b)))) ops rest ks) :
    WL P E n ds m own ρ ops (⟨some d, .binOp .leq tx x y tz, ty, pos, af, none⟩ :: rest) ks :=
  WL.pure hd (by simp) (fun _ => by simp [execOp, hx, hy, binOp, eqGuard, Op.intCmp]) h
theorem WL.gtr {k : IntKind} {a b : Int} (hd : Nat.blt d n = true) (hx : ev ρ x = .int k a) (hy : ev ρ y = .int k b) (h : WL P E n ds m own (upd ρ d (.bool (decide (b < a)))) ops rest ks) :
    WL P E n ds m own ρ ops (⟨some d, .binOp .gtr tx x y tz, ty, pos, af, none⟩ :: rest) ks :=
  WL.pure hd (by simp) (fun _ => by simp [execOp, hx, hy, binOp, eqGuard, Op.intCmp]) h
theorem WL.geq {k : IntKind} {a b : Int} (hd : Nat.blt d n = true) (hx : ev ρ x = .int k a) (hy : ev ρ y = .int k b) (h : WL P E n ds m own (upd ρ d (.bool (decide (b ≤ a)))) ops rest ks) :
    WL P E n ds m own ρ ops (⟨some d, .binOp .geq tx x y tz, ty, pos, af, none⟩ :: rest) ks :=
  WL.pure hd (by simp) (fun _ => by simp [execOp, hx, hy, binOp, eqGuard, Op.intCmp]) h
theorem WL.eql {k : IntKind} {a b : Int} (hd : Nat.blt d n = true) (hx : ev ρ x = .int k a) (hy : ev ρ y = .int k b) (h : WL P E n ds m own (upd ρ d (.bool (decide (a = b)))) ops rest ks) :
    WL P E n ds m own ρ ops (⟨some d, .binOp .eql tx x y tz, ty, pos, af, none⟩ :: rest) ks :=
  WL.pure hd (by simp) (fun _ => by simp [execOp, hx, hy, binOp, eqGuard, Op.intCmp]; first | rfl | (by_cases hab : a = b <;> simp [hab])) h
theorem WL.eqlS {a b : List UInt8} (hd : Nat.blt d n = true) (hx : ev ρ x = str a) (hy : ev ρ y = str b) (h : WL P E n ds m own (upd ρ d (.bool (decide (a = b)))) ops rest ks) :
    WL P E n ds m own ρ ops (⟨some d, .binOp .eql tx x y tz, ty, pos, af, none⟩ :: rest) ks :=
  WL.pure hd (by simp) (fun _ => by simp only [str] at hx hy; simp only [execOp, hx, hy, binOp, eqGuard, Op.stringOp, bytes_beq]; rfl) h
theorem WL.neq {k : IntKind} {a b : Int} (hd : Nat.blt d n = true) (hx : ev ρ x = .int k a) (hy : ev ρ y = .int k b) (h : WL P E n ds m own (upd ρ d (.bool (!decide (a = b)))) ops rest ks) :
    WL P E n ds m own ρ ops (⟨some d, .binOp .neq tx x y tz, ty, pos, af, none⟩ :: rest) ks :=
  WL.pure hd (by simp) (fun _ => by simp [execOp, hx, hy, binOp, eqGuard, Op.intCmp]; first | rfl | (by_cases hab : a = b <;> simp [hab])) h
theorem WL.neqS {a b : List UInt8} (hd : Nat.blt d n = true) (hx : ev ρ x = str a) (hy : ev ρ y = str b) (h : WL P E n ds m own (upd ρ d (.bool (!decide (a = b)))) ops rest ks) :
    WL P E n ds m own ρ ops (⟨some d, .binOp .neq tx x y tz, ty, pos, af, none⟩ :: rest) ks :=
  WL.pure hd (by simp) (fun _ => by simp only [str] at hx hy; simp only [execOp, hx, hy, binOp, eqGuard, Op.stringOp, bytes_beq]; rfl) h
theorem WL.add {a b : Int} (hd : Nat.blt d n = true) (hx : ev ρ x = .int .i64 a) (hy : ev ρ y = .int .i64 b) (hb : -9223372036854775808 ≤ a + b ∧ a + b ≤ 9223372036854775807) (h : WL P E n ds m own (upd ρ d (.int .i64 (a + b))) ops rest ks) :
    WL P E n ds m own ρ ops (⟨some d, .binOp .add tx x y tz, ty, pos, af, none⟩ :: rest) ks :=
  WL.pure hd (by simp) (fun _ => by simp [execOp, hx, hy, binOp, eqGuard, Op.intArith, IntWalk.i64_in _ hb]) h
theorem WL.addW {k : IntKind} {a b : Int} (hd : Nat.blt d n = true) (hx : ev ρ x = .int k a) (hy : ev ρ y = .int k b) (h : WL P E n ds m own (upd ρ d (.int k (k.wrap (a + b)))) ops rest ks) :
    WL P E n ds m own ρ ops (⟨some d, .binOp .add tx x y tz, ty, pos, af, none⟩ :: rest) ks :=
  WL.pure hd (by simp) (fun _ => by simp [execOp, hx, hy, binOp, eqGuard, Op.intArith]) h
theorem WL.sub {a b : Int} (hd : Nat.blt d n = true) (hx : ev ρ x = .int .i64 a) (hy : ev ρ y = .int .i64 b) (hb : -9223372036854775808 ≤ a - b ∧ a - b ≤ 9223372036854775807) (h : WL P E n ds m own (upd ρ d (.int .i64 (a - b))) ops rest ks) :
    WL P E n ds m own ρ ops (⟨some d, .binOp .sub tx x y tz, ty, pos, af, none⟩ :: rest) ks :=
  WL.pure hd (by simp) (fun _ => by simp [execOp, hx, hy, binOp, eqGuard, Op.intArith, IntWalk.i64_in _ hb]) h
theorem WL.subW {k : IntKind} {a b : Int} (hd : Nat.blt d n = true) (hx : ev ρ x = .int k a) (hy : ev ρ y = .int k b) (h : WL P E n ds m own (upd ρ d (.int k (k.wrap (a - b)))) ops rest ks) :
    WL P E n ds m own ρ ops (⟨some d, .binOp .sub tx x y tz, ty, pos, af, none⟩ :: rest) ks :=
  WL.pure hd (by simp) (fun _ => by simp [execOp, hx, hy, binOp, eqGuard, Op.intArith]) h
theorem WL.mul {a b : Int} (hd : Nat.blt d n = true) (hx : ev ρ x = .int .i64 a) (hy : ev ρ y = .int .i64 b) (hb : -9223372036854775808 ≤ a * b ∧ a * b ≤ 9223372036854775807) (h : WL P E n ds m own (upd ρ d (.int .i64 (a * b))) ops rest ks) :
    WL P E n ds m own ρ ops (⟨some d, .binOp .mul tx x y tz, ty, pos, af, none⟩ :: rest) ks :=
  WL.pure hd (by simp) (fun _ => by simp [execOp, hx, hy, binOp, eqGuard, Op.intArith, IntWalk.i64_in _ hb]) h
theorem WL.mulW {k : IntKind} {a b : Int} (hd : Nat.blt d n = true) (hx : ev ρ x = .int k a) (hy : ev ρ y = .int k b) (h : WL P E n ds m own (upd ρ d (.int k (k.wrap (a * b)))) ops rest ks) :
    WL P E n ds m own ρ ops (⟨some d, .binOp .mul tx x y tz, ty, pos, af, none⟩ :: rest) ks :=
  WL.pure hd (by simp) (fun _ => by simp [execOp, hx, hy, binOp, eqGuard, Op.intArith]) h
theorem WL.addS {a b : List UInt8} (hd : Nat.blt d n = true) (hx : ev ρ x = str a) (hy : ev ρ y = str b) (hl : a.length + b.length ≤ 9223372036854775807) (h : WL P E n ds m own (upd ρ d (str (a ++ b))) ops rest ks) :
    WL P E n ds m own ρ ops (⟨some d, .binOp .add tx x y tz, ty, pos, af, none⟩ :: rest) ks := by
  refine WL.pure hd (by simp) (fun _ => ?_) h
  simp only [str] at hx hy
  have e : (ByteArray.mk a.toArray) ++ (ByteArray.mk b.toArray) = ByteArray.mk (a ++ b).toArray := by
    apply ByteArray.ext
    simp [ByteArray.data_append]
  simp [execOp, hx, hy, binOp, eqGuard, Op.stringOp, e, str]
  simp only [ByteArray.size, List.size_toArray]
  omega
theorem WL.neg64 {a : Int} (hd : Nat.blt d n = true) (hx : ev ρ x = .int .i64 a) (hb : -9223372036854775808 ≤ 0 - a ∧ 0 - a ≤ 9223372036854775807) (h : WL P E n ds m own (upd ρ d (.int .i64 (0 - a))) ops rest ks) :
    WL P E n ds m own ρ ops (⟨some d, .unOp .neg tx x, ty, pos, af, none⟩ :: rest) ks :=
  WL.pure hd (by simp) (fun _ => by
    simp only [execOp, Op.unary, hx, Op.intArith, IntWalk.i64_in _ hb]; rfl) h
theorem WL.max {a b : Int} {tys : Array TypeId} (hd : Nat.blt d n = true) (hx : ev ρ x = .int .i64 a) (hy : ev ρ y = .int .i64 b) (h : WL P E n ds m own (upd ρ d (.int .i64 (max a b))) ops rest ks) :
    WL P E n ds m own ρ ops (⟨some d, .call ⟨.builtin .max, #[x, y], tys⟩, ty, pos, af, none⟩ :: rest) ks :=
  WL.pure hd (by simp) (fun _ => by
    simp only [execOp, resolve, List.map_toArray, List.map_cons, List.map_nil, hx, hy]
    simp [List.foldlM, Builtin.max2, invoke, builtin, Builtin.max_]
    split <;> omega) h
theorem WL.min {a b : Int} {tys : Array TypeId} (hd : Nat.blt d n = true) (hx : ev ρ x = .int .i64 a) (hy : ev ρ y = .int .i64 b) (h : WL P E n ds m own (upd ρ d (.int .i64 (min a b))) ops rest ks) :
    WL P E n ds m own ρ ops (⟨some d, .call ⟨.builtin .min, #[x, y], tys⟩, ty, pos, af, none⟩ :: rest) ks :=
  WL.pure hd (by simp) (fun _ => by
    simp only [execOp, resolve, List.map_toArray, List.map_cons, List.map_nil, hx, hy]
    simp [List.foldlM, Builtin.min2, invoke, builtin, Builtin.min_]
    split <;> omega) h
end
end Go.SL
