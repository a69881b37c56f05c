/- Steps for package unsafe's two functions of a text and its bytes, and an append of nothing to nothing. -/
import Derived.Test.YtbigjpjmdkgjmaaDoorSlDraw
import Derived.Lib.UnsafeStr
namespace Go.SL
open Go
set_option linter.unusedVariables false
set_option linter.unusedSimpArgs false
section
variable {P : Program} {E : Env} {n : Nat} {ds : List Deferred} {m : Imm} {own own' : Own} {ρ : Nat → Value} {ks : List Kt} {ops : Array Oper} {rest : List Oper} {d : Nat} {ty t t2 el : TypeId} {pos : String} {af : Array Edge} {x y : Operand}

theorem WL.appendS0 {bytes : Nat} {agg : Bool} {z : Value} [hU : Und P t (.slice el)] [hU2 : Und P t2 .string] [hT : Ty P el agg 1 bytes z] (hd : Nat.blt d n = true) (hx : ev ρ x = .slice none 0 0) (hy : ev ρ y = str [])
    (h : WL P E n ds m own (upd ρ d (.slice none 0 0)) ops rest ks) :
    WL P E n ds m own ρ ops (⟨some d, .call ⟨.builtin .append, #[x, y], #[t, t2]⟩, ty, pos, af, none⟩ :: rest) ks := by
  refine WL.pure hd (by simp) (fun w => ?_) h
  rw [run_builtin2 hx hy]
  simp [builtin, Builtin.append_, Sem.run_bind, Result.andThen, run_underlying hU.ok, run_underlying hU2.ok, hT.size, Builtin.lenOf, str, Builtin.firstCells, ByteArray.size]
theorem run_builtin1 {b : Builtin} {v : Value} {w : World} {tys : Array TypeId} (hx : ev ρ x = v) (dst : Option Tmp) :
    (execOp (ev ρ) ⟨dst, .call ⟨.builtin b, #[x], tys⟩, ty, pos, af, none⟩).run P w = (builtin b tys ty ((#[x] : Array Operand).map fun | .const _ => true | _ => false) #[v]).run P w := by
  simp [execOp, resolve, hx, invoke]
  rfl
theorem WL.unsafeSD {a : Option Addr} {len cap : Nat} {tys : Array TypeId} (hd : Nat.blt d n = true) (hx : ev ρ x = .slice a len cap) (hc : a = none ∨ cap ≠ 0)
    (h : WL P E n ds m own (upd ρ d (.pointer a)) ops rest ks) :
    WL P E n ds m own ρ ops (⟨some d, .call ⟨.builtin .unsafeSliceData, #[x], tys⟩, ty, pos, af, none⟩ :: rest) ks := by
  refine WL.pure hd (by simp) (fun w => ?_) h
  rw [run_builtin1 hx]
  cases a with
  | none => simp [builtin, Lib.run_unsafeSliceData_nil]
  | some a => simp [builtin, Lib.run_unsafeSliceData_row w _ _ a len cap (hc.resolve_left (by simp))]
theorem WL.unsafeStr {l : List UInt8} {a : Option Addr} {cap : Nat} {blk : Bun} {pt it : TypeId} {bytes : Nat} {agg : Bool} {z : Value} [hP : Und P pt (.pointer el)] [hT : Ty P el agg 1 bytes z] (hd : Nat.blt d n = true)
    (hx : ev ρ x = .pointer a) (hy : ev ρ y = .int .i64 (l.length : Nat)) (hO : OSl blk 1 el (.slice a l.length cap) (l.map byt)) (hB : BUpd own blk [] own') (hl : l.length ≤ 9223372036854775807)
    (hne : (P.cellsOf el == 1) = true)
    (h : WL P E n ds m own' (upd ρ d (str l)) ops rest ks) :
    WL P E n ds m own ρ ops (⟨some d, .call ⟨.builtin .unsafeString, #[x, y], #[pt, it]⟩, ty, pos, af, none⟩ :: rest) ks := by
  refine WL.step hd (by simp) fun w hs => ?_
  have hin : ∀ p ∈ blk, p ∈ own.flatten := fun p hp => hB.at.mem p hp
  by_cases h0 : l = []
  · subst h0
    refine ⟨str [], w, m, own', ?_, hs.put hB ⟨rfl, rfl, rfl, Nat.le_refl _, fun _ _ _ => rfl, by simp, by simp, by simp⟩, h⟩
    rw [run_builtin2 hx hy]
    have := Lib.run_unsafeString_none (P := P) w pt it ty a
    simp only [builtin, str]
    rw [Sem.run_bind]
    simp only [List.length_nil, Int.ofNat_zero] at this ⊢
    erw [this]
    rfl
  · rcases hO with ⟨_, hn, _⟩ | ⟨b, arr, cap', fz, rfl, hv, hc1, hsz, hfz, hf, hcell⟩
    · simp at hn; exact absurd hn h0
    · injection hv with hv1 hv2 hv3
      subst hv1; subst hv3
      have hbk : w.heap[b]? = some (.cells arr el fz) := hs.rd (.inr (hin _ (by simp)))
      have hrun := Lib.run_unsafeString_row (P := P) w pt it ty el hP.ok (by simpa using hne) b arr.size (by simp [World.shape?, hbk]) l h0 (by simp at hc1; omega) hl (by
        intro j x hj
        rw [cell_add hbk]
        have := hcell j (byt x) (by simp [hj]) 0 (byt x) rfl
        simpa [byt] using this)
      refine ⟨str l, w.freeze ⟨b, 0, none⟩ l.length, m, own', ?_, hs.put hB ⟨?_, ?_, ?_, ?_, ?_, by simp, by simp, by simp⟩, h⟩
      · rw [run_builtin2 hx hy]
        simp only [builtin, str]
        rw [Sem.run_bind, hrun]
        rfl
      · unfold World.freeze; split <;> rfl
      · unfold World.freeze; split <;> rfl
      · unfold World.freeze; split <;> rfl
      · unfold World.freeze; split <;> simp
      · intro b' _ hb'
        have : b ≠ b' := by rintro rfl; simp at hb'
        unfold World.freeze; split
        · rfl
        · simp [Array.getElem?_modify, this]
end
end Go.SL
