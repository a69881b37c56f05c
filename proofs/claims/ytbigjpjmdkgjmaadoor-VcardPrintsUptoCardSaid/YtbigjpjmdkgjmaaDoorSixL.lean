/- sixbit.Lines: the function that it hands back, and what it captures: contract. -/
import Derived.Test.YtbigjpjmdkgjmaaDoorSix
import Derived.Test.YtbigjpjmdkgjmaaDoorSlRng
namespace Go.SL
open Go Go.Proofs
set_option linter.unusedVariables false
set_option linter.unusedSimpArgs false

theorem slines_tr (m : Imm) (s : List UInt8) (k : Nat) (hk : 1 ≤ k) :
    Tr Tryd.prog 39 [str s, .int .i64 (k : Nat)] m [] fun u m' own' => m' = m ∧ ∃ b2 b3, u = .func (.func 64) #[] #[.pointer (some ⟨b2, 0, none⟩), .pointer (some ⟨b3, 0, none⟩)] ∧
      own' = [[(b3, .cells #[.int .i64 (k : Nat)] 3 (0, 0))], [(b2, .cells #[str s] 9 (0, 0))]] := by
  refine Tr.of Tryd.func39 Tryd.ntmps39 rfl rfl fun w => ?_
  refine WK.seq ?_
  refine WK.region ?_
  refine WL.box rfl rfl fun b2 => ?_
  refine WL.box rfl rfl fun b3 => ?_
  refine WL.asC rfl ?_
  refine WL.nil ?_
  refine WK.seq ?_
  refine WK.region ?_
  refine WL.load1O rfl rfl (by first | exact .here | exact .there .here | exact .there (.there .here) | exact .there (.there (.there .here)) | exact .there (.there (.there (.there .here))) | exact .there (.there (.there (.there (.there .here))))) (show _ = some (.int _ _) from rfl) ?_
  refine WL.max rfl rfl rfl ?_
  refine WL.store1O rfl (show _ = (.int _ _) from rfl) rfl (by first | exact .here | exact .there .here | exact .there (.there .here) | exact .there (.there (.there .here)) | exact .there (.there (.there (.there .here))) | exact .there (.there (.there (.there (.there .here))))) rfl ?_
  refine WL.nil ?_
  refine WK.seq ?_
  refine WK.region ?_
  refine WL.makeFunc rfl ?_
  refine WL.asF rfl rfl ?_
  refine WL.nil ?_
  refine WK.ret ?_
  -- end
  refine WK.end1 rfl (show _ = .func _ _ _ from rfl) ?_
  have hmax : max (k : Int) 1 = k := Int.max_eq_left (by omega)
  refine ⟨rfl, b2, b3, by simp only [List.map_toArray, List.map_cons, List.map_nil]; rfl, ?_⟩
  show [[(b3, Obj.cells #[.int .i64 (max (k : Int) 1)] _ _)], [(b2, Obj.cells #[str s] _ _)]] = _
  rw [hmax]
end Go.SL
