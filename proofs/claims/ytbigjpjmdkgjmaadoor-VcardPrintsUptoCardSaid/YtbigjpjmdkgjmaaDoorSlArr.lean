/- Rules of the separation-logic layer: an array of one's own, sliced, written by copy, indexed. -/
import Derived.Test.YtbigjpjmdkgjmaaDoorSlRng
namespace Go.SL
open Go
set_option linter.unusedVariables false
set_option linter.unusedSimpArgs false
section
variable {P : Program} {E : Env} {n : Nat} {ds : List Deferred} {m : Imm} {own own' : Own} {ρ : Nat → Value} {ks : List Kt} {ops : Array Oper} {rest : List Oper} {d : Nat} {ty t t2 el : TypeId} {pos : String} {af : Array Edge} {x y : Operand}
/-- a[:] -/
theorem WL.sliceArr {k b kk bytes : Nat} {agg : Bool} {z : Value} [hU : Und P t (.array k el)] [hT : Ty P el agg kk bytes z] (hd : Nat.blt d n = true) (hx : ev ρ x = .pointer (some ⟨b, 0, none⟩))
    (h : WL P E n ds m own (upd ρ d (.slice (some ⟨b, 0, none⟩) k k)) ops rest ks) : WL P E n ds m own ρ ops (⟨some d, .slice t x none none none, ty, pos, af, none⟩ :: rest) ks := by
  refine WL.pure hd (by simp) (fun w => ?_) h
  have e : (⟨b, 0, none⟩ : Addr).add 0 = ⟨b, 0, none⟩ := addr_add _ _ _
  simp [execOp, Instr.sliceAt, Instr.sliceBounds, Instr.sureAddr, hx, Sem.run_bind, run_underlying hU.ok, Result.andThen, hT.size, e]
/-- copy(bytes, s), s no longer than the bytes, which are a whole own block. -/
theorem WL.copyS {l : List UInt8} {b k cap bytes : Nat} {agg : Bool} {z : Value} {arr : Array Value} {tb : TypeId} [hU : Und P t (.slice el)] [hU2 : Und P t2 .string] [hT : Ty P el agg 1 bytes z] (hd : Nat.blt d n = true)
    (hx : ev ρ x = .slice (some ⟨b, 0, none⟩) k cap) (hy : ev ρ y = str l) (hl : l.length ≤ k) (ha : k ≤ arr.size)
    (hB : BUpd own [(b, .cells arr tb (0, 0))] [(b, .cells (setAt arr 0 (l.map byt)) tb (0, 0))] own')
    (h : WL P E n ds m own' (upd ρ d (.int .i64 (l.length : Nat))) ops rest ks) :
    WL P E n ds m own ρ ops (⟨some d, .call ⟨.builtin .copy, #[x, y], #[t, t2]⟩, ty, pos, af, none⟩ :: rest) ks := by
  refine WL.step hd (by simp) fun w hs => ?_
  have hb : w.heap[b]? = some (.cells arr tb (0, 0)) := hs.rd (.inr (hB.at.mem _ (by simp)))
  obtain ⟨w', hst, hw⟩ := run_storeCells (P := P) (l.map byt) w b 0 0 arr tb (0, 0) hb (by simp; omega) (by intro j _; simp) (by intro v hv; obtain ⟨c, _, rfl⟩ := List.mem_map.1 hv; rfl)
  refine ⟨_, w', m, own', ?_, hs.put hB hw.turned, h⟩
  rw [run_builtin2 hx hy]
  obtain ⟨dd, i, g1, g2, g3, g4, g5, g6⟩ := hT.parts
  have hsz : (ByteArray.mk l.toArray).size = l.length := by simp [ByteArray.size]
  have hmin : Nat.min l.length k = l.length := Nat.min_eq_left hl
  have htk : List.take l.length (List.map (fun b : UInt8 => Value.int IntKind.u8 (b.toNat : Int)) l) = l.map byt := by
    rw [List.take_of_length_le (by simp)]; rfl
  simp [builtin, Builtin.copy_, run_underlying hU.ok, Builtin.lenOf, Builtin.firstCells, sizeOf, typeInfo, g2, g4, str, hsz, -ByteArray.size_data, hmin, Sem.run_bind, Result.andThen, htk, hst, goInt]
/-- &a[j] -/
theorem WL.indexArr {k b j bytes : Nat} {agg : Bool} {z : Value} {kk : IntKind} {i : Int} [hU : Und P t (.array k el)] [hT : Ty P el agg 1 bytes z] (hd : Nat.blt d n = true) (hx : ev ρ x = .pointer (some ⟨b, 0, none⟩))
    (hy : ev ρ y = .int kk i) (hij : i = (j : Int)) (hj : Nat.blt j k = true)
    (h : WL P E n ds m own (upd ρ d (.pointer (some ⟨b, j, none⟩))) ops rest ks) : WL P E n ds m own ρ ops (⟨some d, .indexAddr t x y, ty, pos, af, none⟩ :: rest) ks := by
  refine WL.pure hd (by simp) (fun w => ?_) h
  have e : (⟨b, 0, none⟩ : Addr).add j = ⟨b, j, none⟩ := by rw [addr_add]; simp
  subst hij
  have hj' : j < k := by simpa [Nat.blt_eq] using hj
  simp [execOp, Instr.indexAt, Instr.sureAddr, hx, hy, asIntOf, Sem.run_bind, run_underlying hU.ok, Result.andThen, hT.size, e, hj']
/-- An element's address, of a slice whose address is known. -/
theorem Sl.elem {R : Nat → Obj → Prop} {k len cap j : Nat} {a : Option Addr} {xs : List Value} {xv : Value} (h : Sl R k (.slice a len cap) xs) (hj : xs[j]? = some xv) :
    ∃ b off, a = some ⟨b, off, none⟩ ∧ PtE R (.pointer (some ⟨b, off + j * k, none⟩)) xv.cells.toList := by
  obtain ⟨a', cap', e1, e2, e3, e4⟩ := h
  injection e1 with e1 e5 e6
  subst e1
  obtain ⟨b, off, arr, t, fz, rfl, hb, hc⟩ := e4 (by rintro rfl; simp at hj)
  exact ⟨b, off, rfl, b, off + j * k, rfl, arr, t, fz, hb, fun i u hi => hc j xv hj i u (by simpa using hi)⟩
theorem WL.indexK {el : TypeId} {k bytes j b off len cap : Nat} {agg : Bool} {z : Value} {kk : IntKind} {i : Int} [hU : Und P t (.slice el)] [hT : Ty P el agg k bytes z] (hd : Nat.blt d n = true)
    (hx : ev ρ x = .slice (some ⟨b, off, none⟩) len cap) (hy : ev ρ y = .int kk i) (hij : i = (j : Int)) (hj : j < len)
    (h : WL P E n ds m own (upd ρ d (.pointer (some ⟨b, off + j * k, none⟩))) ops rest ks) :
    WL P E n ds m own ρ ops (⟨some d, .indexAddr t x y, ty, pos, af, none⟩ :: rest) ks := by
  subst hij
  have e : (⟨b, off, none⟩ : Addr).add (j * k) = ⟨b, off + j * k, none⟩ := addr_add _ _ _
  refine WL.pure hd (by simp) (fun w => ?_) h
  simp [execOp, Instr.indexAt, hx, hy, asIntOf, Sem.run_bind, run_underlying hU.ok, Result.andThen, hT.size, e, hj]
end
end Go.SL
