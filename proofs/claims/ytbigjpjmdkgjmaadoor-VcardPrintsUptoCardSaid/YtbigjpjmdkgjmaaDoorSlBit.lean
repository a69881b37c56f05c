/- Steps over numbers: quotients, remainders, shifts, bits; and a made slice that is empty. -/
import Derived.Test.YtbigjpjmdkgjmaaDoorSlUns
namespace Go.SL
open Go
set_option linter.unusedVariables false
set_option linter.unusedSimpArgs false
section
variable {P : Program} {E : Env} {n : Nat} {ds : List Deferred} {m : Imm} {own own' : Own} {ρ : Nat → Value} {ks : List Kt} {ops : Array Oper} {rest : List Oper} {d : Nat} {ty t t2 el tx tz : TypeId} {pos : String} {af : Array Edge} {x y : Operand}

theorem WK.perm {e : Exit} (hp : List.Perm own own') (h : WK P E n ds m own' ρ e ks) : WK P E n ds m own ρ e ks := fun a w hf hs => h a w hf (hs.perm hp.flatten.symm)
theorem WL.perm {l : List Oper} (hp : List.Perm own own') (h : WL P E n ds m own' ρ ops l ks) : WL P E n ds m own ρ ops l ks := fun a w hf hs => h a w hf (hs.perm hp.flatten.symm)
theorem WL.quo {a b : Int} (hd : Nat.blt d n = true) (hx : ev ρ x = .int .i64 a) (hy : ev ρ y = .int .i64 b) (ha : 0 ≤ a) (ha' : a ≤ 9223372036854775807) (hb : 0 < b) (h : WL P E n ds m own (upd ρ d (.int .i64 (a / b))) ops rest ks) :
    WL P E n ds m own ρ ops (⟨some d, .binOp .quo tx x y tz, ty, pos, af, none⟩ :: rest) ks := by
  refine WL.pure hd (by simp) (fun _ => ?_) h
  have hb0 : b ≠ 0 := by omega
  have e : a.tdiv b = a / b := Int.tdiv_eq_ediv_of_nonneg ha
  have e1 : 0 ≤ a / b := Int.ediv_nonneg ha (by omega)
  have e2 : a / b ≤ a := Int.ediv_le_self b ha
  simp [execOp, hx, hy, binOp, eqGuard, Op.intDiv, hb0, e, IntWalk.i64_in (a / b) ⟨by omega, by omega⟩]
theorem WL.rem {k : IntKind} {a b : Int} (hd : Nat.blt d n = true) (hx : ev ρ x = .int k a) (hy : ev ρ y = .int k b) (ha : 0 ≤ a) (hb : 0 < b) (h : WL P E n ds m own (upd ρ d (.int k (a % b))) ops rest ks) :
    WL P E n ds m own ρ ops (⟨some d, .binOp .rem tx x y tz, ty, pos, af, none⟩ :: rest) ks := by
  refine WL.pure hd (by simp) (fun _ => ?_) h
  have hb0 : b ≠ 0 := by omega
  have e : a.tmod b = a % b := Int.tmod_eq_emod_of_nonneg ha
  simp [execOp, hx, hy, binOp, eqGuard, Op.intDiv, hb0, e]
theorem WL.shr {k yk : IntKind} {a b : Int} (s : Nat) (hd : Nat.blt d n = true) (hx : ev ρ x = .int k a) (hy : ev ρ y = .int yk b) (hb : b = (s : Int)) (hs : Nat.ble s k.bits = true) (h : WL P E n ds m own (upd ρ d (.int k (a / (2 ^ s : Nat)))) ops rest ks) :
    WL P E n ds m own ρ ops (⟨some d, .binOp .shr tx x y tz, ty, pos, af, none⟩ :: rest) ks := by
  refine WL.pure hd (by simp) (fun _ => ?_) h
  subst hb
  have hs' : s ≤ k.bits := by simpa using hs
  have hn : ¬ ((s : Int) < 0) := by omega
  simp [execOp, hx, hy, binOp, eqGuard, Op.shift, Nat.min_eq_left hs', hn]
  exact Int.fdiv_eq_ediv_of_nonneg _ (Int.le_of_lt (Int.pow_pos (by decide)))
theorem WL.shl {k yk : IntKind} {a b : Int} (s : Nat) (hd : Nat.blt d n = true) (hx : ev ρ x = .int k a) (hy : ev ρ y = .int yk b) (hb : b = (s : Int)) (hs : Nat.ble s k.bits = true) (h : WL P E n ds m own (upd ρ d (.int k (k.wrap (a * (2 ^ s : Nat))))) ops rest ks) :
    WL P E n ds m own ρ ops (⟨some d, .binOp .shl tx x y tz, ty, pos, af, none⟩ :: rest) ks := by
  refine WL.pure hd (by simp) (fun _ => ?_) h
  subst hb
  have hs' : s ≤ k.bits := by simpa using hs
  have hn : ¬ ((s : Int) < 0) := by omega
  simp [execOp, hx, hy, binOp, eqGuard, Op.shift, Nat.min_eq_left hs', hn]
theorem WL.andW {k : IntKind} {a b : Int} (hd : Nat.blt d n = true) (hx : ev ρ x = .int k a) (hy : ev ρ y = .int k b) (h : WL P E n ds m own (upd ρ d (.int k (k.wrap (BitVec.ofInt k.bits a &&& BitVec.ofInt k.bits b).toNat))) ops rest ks) :
    WL P E n ds m own ρ ops (⟨some d, .binOp .and tx x y tz, ty, pos, af, none⟩ :: rest) ks :=
  WL.pure hd (by simp) (fun _ => by simp [execOp, hx, hy, binOp, eqGuard, Op.intBits]) h
theorem WL.orW {k : IntKind} {a b : Int} (hd : Nat.blt d n = true) (hx : ev ρ x = .int k a) (hy : ev ρ y = .int k b) (h : WL P E n ds m own (upd ρ d (.int k (k.wrap (BitVec.ofInt k.bits a ||| BitVec.ofInt k.bits b).toNat))) ops rest ks) :
    WL P E n ds m own ρ ops (⟨some d, .binOp .or tx x y tz, ty, pos, af, none⟩ :: rest) ks :=
  WL.pure hd (by simp) (fun _ => by simp [execOp, hx, hy, binOp, eqGuard, Op.intBits]) h
theorem WL.convIe {kk kd : IntKind} {t1 : TypeId} {a b : Int} {sd : TypeDesc} [hU : Und P t1 sd] [hU2 : Und P t (.int kd)] (hd : Nat.blt d n = true) (hx : ev ρ x = .int kk a) (hw : kd.wrap a = b) (h : WL P E n ds m own (upd ρ d (.int kd b)) ops rest ks) :
    WL P E n ds m own ρ ops (⟨some d, .convert t1 t x, ty, pos, af, none⟩ :: rest) ks := by
  subst hw
  exact WL.convI hd hx h
/-- A known value of a slot: another way to say it. -/
theorem WL.as {d : Nat} {v v' : Value} (e : v = v') (h : WL P E n ds m own (upd ρ d v') ops rest ks) : WL P E n ds m own (upd ρ d v) ops rest ks := e ▸ h
theorem WL.makeSlice0 {k bytes c : Nat} {agg : Bool} {z : Value} {k1 : IntKind} {ci : Int} [hU : Und P t (.slice el)] [hT : Ty P el agg k bytes z] (hd : Nat.blt d n = true) (hx : ev ρ x = .int k1 0) (hy : ev ρ y = .int .i64 ci) (hc : ci = (c : Int))
    (hb : bytes * c ≤ 281474976710656) (hc' : c ≤ 281474976710656)
    (h : ∀ v blk, OSl blk k el v [] → WL P E n ds m (blk :: own) (upd ρ d v) ops rest ks) :
    WL P E n ds m own ρ ops (⟨some d, .makeSlice t x y, ty, pos, af, none⟩ :: rest) ks := by
  subst hc
  obtain ⟨a, ha⟩ : ∃ a : Array Value, a = (Array.range (c * k)).map (fun i => (if c * k = 0 then #[] else z.cells)[i % (if c * k = 0 then #[] else z.cells).size]!) := ⟨_, rfl⟩
  have hO : ∀ b, OSl [(b, .cells a el (0, 0))] k el (.slice (some ⟨b, 0, none⟩) 0 c) [] := fun b =>
    OSl.build (xs := []) (by simp) (by simp) (by rw [ha]; simp) (by intro i _; simp) (by intro q c hq; simp [cellsOf] at hq)
  refine WL.step hd (by simp) fun w hs => ⟨.slice (some ⟨w.heap.size, 0, none⟩) 0 c, pushed w (.cells a el (0, 0)), m, _, ?_, hs.push (.cells a el (0, 0)), h _ _ (hO w.heap.size)⟩
  obtain ⟨inf, hi1, hi2, hi3⟩ := hT.info w
  obtain ⟨dd, i, g1, g2, g3, g4, g5, g6⟩ := hT.parts
  have hw : IntKind.i64.wrap (c : Int) = c := IntWalk.i64_in _ ⟨by omega, by omega⟩
  have hw0 : IntKind.i64.wrap 0 = 0 := by decide
  have e48 : (2 : Int) ^ 48 = 281474976710656 := by decide
  have hn1 : ¬ ((c : Int) < 0) := by omega
  have hn2 : ¬ ((281474976710656 : Int) < (bytes : Int) * (c : Int)) := by
    rw [← Int.natCast_mul]
    omega
  by_cases h0 : c * k = 0
  · simp [execOp, Instr.makeSlice, Sem.run_bind, Result.andThen, run_underlying hU.ok, hx, hy, typeInfo, g2, g5, hw, hw0, hn1, hn2, hT.size, hT.zero, h0, newRow, asInt, asIntOf, pushed, ha, e48]
  · simp [execOp, Instr.makeSlice, Sem.run_bind, Result.andThen, run_underlying hU.ok, hx, hy, typeInfo, g2, g5, hw, hw0, hn1, hn2, hT.size, hT.zero, h0, newRow, asInt, asIntOf, pushed, ha, e48]
end
end Go.SL
