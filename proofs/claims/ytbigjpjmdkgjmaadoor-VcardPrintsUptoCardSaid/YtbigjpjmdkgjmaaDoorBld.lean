/- strings.Builder: contracts of a builder that the caller owns. -/
import Derived.Test.YtbigjpjmdkgjmaaDoorTys
import Derived.Test.YtbigjpjmdkgjmaaDoorSlUns
namespace Go.SL
open Go Go.Proofs
set_option linter.unusedVariables false
set_option linter.unusedSimpArgs false

/-- A builder in block b that holds s: its own two cells, and its buffer's block. -/
def IsB (blk : Bun) (b : Nat) (s : List UInt8) : Prop :=
  ∃ q v bb, blk = (b, .cells #[.pointer q, v] 50 (0, 0)) :: bb ∧ OSl bb 1 5 v (s.map byt) ∧ (q = none ∨ q = some ⟨b, 0, none⟩) ∧ (s = [] → v = .slice none 0 0 ∧ bb = [])
theorem IsB.new (b : Nat) : IsB [(b, .cells (Value.agg #[.pointer none, .slice none 0 0]).cells 50 (0, 0))] b [] :=
  ⟨none, .slice none 0 0, [], rfl, OSl.nil _ _ _, .inl rfl, fun _ => ⟨rfl, rfl⟩⟩

/-- copyCheck, at a builder's first block. -/
theorem copyCheck_tr (m : Imm) (b : Nat) (q : Option Addr) (v : Value) (hq : q = none ∨ q = some ⟨b, 0, none⟩) :
    Tr Tryd.prog 44 [.pointer (some ⟨b, 0, none⟩)] m [[(b, .cells #[.pointer q, v] 50 (0, 0))]]
      fun u m' own' => u = .tuple #[] ∧ m' = m ∧ own' = [[(b, .cells #[.pointer (some ⟨b, 0, none⟩), v] 50 (0, 0))]] := by
  refine Tr.of Tryd.func44 Tryd.ntmps44 rfl rfl fun w => ?_
  refine WK.seq ?_
  refine WK.region ?_
  refine WL.mvP rfl rfl ?_
  refine WL.nilCheck rfl rfl ?_
  refine WL.fieldO rfl rfl ?_
  refine WL.load1O rfl rfl (by first | exact .here | exact .there .here | exact .there (.there .here) | exact .there (.there (.there .here)) | exact .there (.there (.there (.there .here))) | exact .there (.there (.there (.there (.there .here))))) (show _ = some (.pointer _) from rfl) ?_
  -- op eqlpointer
  refine WL.eqlPN rfl rfl rfl ?_
  refine WL.nil ?_
  -- cond
  rcases hq with rfl | rfl
  · skip
    refine WK.cond_t rfl ?_
    refine WK.region ?_
    refine WL.mvP rfl rfl ?_
    refine WL.mvP rfl rfl ?_
    -- op convert
    refine WL.toUnsafe rfl rfl .here (by decide) (by simp) ?_
    refine WL.extern rfl Tryd.func74 (by kernel_rfl) (by kernel_rfl) (by kernel_rfl) (e := Extern.AbiNoEscape.same) (by kernel_rfl) (vs := [.pointer (some ⟨b, 0, none⟩)]) rfl (fun w => rfl) ?_
    refine WL.fromUnsafe rfl rfl .here (by kernel_rfl) ?_
    refine WL.nilCheck rfl rfl ?_
    refine WL.fieldO rfl rfl ?_
    refine WL.store1O rfl (show _ = (.pointer _) from rfl) rfl (by first | exact .here | exact .there .here | exact .there (.there .here) | exact .there (.there (.there .here)) | exact .there (.there (.there (.there .here))) | exact .there (.there (.there (.there (.there .here))))) rfl ?_
    refine WL.nil ?_
    -- end
    refine WK.end0 rfl  ?_
    exact ⟨rfl, rfl, rfl⟩
  · skip
    refine WK.cond_f rfl ?_
    refine WK.seq ?_
    refine WK.region ?_
    refine WL.mvP rfl rfl ?_
    refine WL.nilCheck rfl rfl ?_
    refine WL.fieldO rfl rfl ?_
    refine WL.load1O rfl rfl (by first | exact .here | exact .there .here | exact .there (.there .here) | exact .there (.there (.there .here)) | exact .there (.there (.there (.there .here))) | exact .there (.there (.there (.there (.there .here))))) (show _ = some (.pointer _) from rfl) ?_
    refine WL.mvP rfl rfl ?_
    -- op neqpointer
    refine WL.neqPP rfl rfl rfl ?_
    refine WL.nil ?_
    refine WK.cond_f rfl ?_
    refine WK.skip ?_
    -- end
    refine WK.end0 rfl  ?_
    exact ⟨rfl, rfl, rfl⟩

theorem writeString_tr (m : Imm) {blk : Bun} {b : Nat} {s : List UInt8} (h : IsB blk b s) (t : List UInt8) (hr : s.length + t.length ≤ 1000000000) :
    Tr Tryd.prog 22 [.pointer (some ⟨b, 0, none⟩), str t] m [blk] fun u m' own' => m' = m ∧ ∃ blk', own' = [blk'] ∧ IsB blk' b (s ++ t) := by
  obtain ⟨q, v, bb, rfl, hO, hq, hnil⟩ := h
  obtain ⟨a, c, hv, _⟩ := hO.shape
  rw [List.length_map] at hv
  subst hv
  refine Tr.of Tryd.func22 Tryd.ntmps22 rfl rfl fun w => ?_
  refine WK.flat (own' := [[(b, .cells #[.pointer q, .slice a s.length c] 50 (0, 0))], bb]) rfl ?_
  refine WK.seq ?_
  refine WK.region ?_
  refine WL.asC rfl ?_
  refine WL.asC rfl ?_
  refine WL.nil ?_
  refine WK.seq ?_
  refine WK.region ?_
  refine WL.mvP rfl rfl ?_
  -- call (*strings.Builder).copyCheck
  refine WL.call (copyCheck_tr m b q _ hq) rfl rfl rfl (.here .none) fun u m' back hle hΦ => ?_
  obtain ⟨rfl, rfl, rfl⟩ := hΦ
  by_cases hst : s = [] ∧ t = []
  · obtain ⟨rfl, rfl⟩ := hst
    obtain ⟨hv, rfl⟩ := hnil rfl
    simp only [List.length_nil] at hv
    injection hv with e1 e2 e3
    subst e1; subst e3
    refine WL.nil ?_
    refine WK.seq ?_
    refine WK.region ?_
    refine WL.mvP rfl rfl ?_
    refine WL.mvP rfl rfl ?_
    refine WL.nilCheck rfl rfl ?_
    refine WL.fieldO rfl rfl ?_
    refine WL.load1O rfl rfl (by first | exact .here | exact .there .here | exact .there (.there .here) | exact .there (.there (.there .here)) | exact .there (.there (.there (.there .here))) | exact .there (.there (.there (.there (.there .here))))) (show _ = some (.slice _ _ _) from rfl) ?_
    refine WL.mvS rfl rfl ?_
    refine WL.appendS0 rfl rfl rfl ?_
    refine WL.nilCheck rfl rfl ?_
    refine WL.fieldO rfl rfl ?_
    refine WL.store1O rfl (show _ = (.slice _ _ _) from rfl) rfl (by first | exact .here | exact .there .here | exact .there (.there .here) | exact .there (.there (.there .here)) | exact .there (.there (.there (.there .here))) | exact .there (.there (.there (.there (.there .here))))) rfl ?_
    refine WL.nil ?_
    refine WK.seq ?_
    refine WK.region ?_
    refine WL.mvS rfl rfl ?_
    refine WL.lenS rfl rfl ?_
    refine WL.asI rfl rfl ?_
    refine WL.asC rfl ?_
    refine WL.nil ?_
    refine WK.ret ?_
    -- end
    refine WK.flat (own' := [[(b, .cells #[.pointer (some ⟨b, 0, none⟩), .slice none 0 0] 50 (0, 0))]]) rfl ?_
    refine WK.end2 rfl (show _ = .int _ _ from rfl) (show _ = _ from rfl) ?_
    exact ⟨rfl, _, rfl, _, _, _, rfl, OSl.nil _ _ _, .inr rfl, fun _ => ⟨rfl, rfl⟩⟩
  · skip
    refine WL.nil ?_
    refine WK.seq ?_
    refine WK.region ?_
    refine WL.mvP rfl rfl ?_
    refine WL.mvP rfl rfl ?_
    refine WL.nilCheck rfl rfl ?_
    refine WL.fieldO rfl rfl ?_
    refine WL.load1O rfl rfl (by first | exact .here | exact .there .here | exact .there (.there .here) | exact .there (.there (.there .here)) | exact .there (.there (.there (.there .here))) | exact .there (.there (.there (.there (.there .here))))) (show _ = some (.slice _ _ _) from rfl) ?_
    refine WL.mvS rfl rfl ?_
    refine WL.appendS rfl rfl hO (by first | exact .here | exact .there .here | exact .there (.there .here) | exact .there (.there (.there .here)) | exact .there (.there (.there (.there .here))) | exact .there (.there (.there (.there (.there .here))))) rfl rfl rfl (by simp; omega) _ (fun _ => (by first | exact .here | exact .there .here | exact .there (.there .here) | exact .there (.there (.there .here)) | exact .there (.there (.there (.there .here))) | exact .there (.there (.there (.there (.there .here)))))) fun v14 blk14 hO14 => ?_
    obtain ⟨a14, c14, hv14, hc14⟩ := hO14.shape; subst hv14
    refine WL.nilCheck rfl rfl ?_
    refine WL.fieldO rfl rfl ?_
    refine WL.store1O rfl (show _ = (.slice _ _ _) from rfl) rfl (by first | exact .here | exact .there .here | exact .there (.there .here) | exact .there (.there (.there .here)) | exact .there (.there (.there (.there .here))) | exact .there (.there (.there (.there (.there .here))))) rfl ?_
    refine WL.nil ?_
    refine WK.seq ?_
    refine WK.region ?_
    refine WL.mvS rfl rfl ?_
    refine WL.lenS rfl rfl ?_
    refine WL.asI rfl rfl ?_
    refine WL.asC rfl ?_
    refine WL.nil ?_
    refine WK.ret ?_
    -- end
    refine WK.flat (own' := [(b, .cells #[.pointer (some ⟨b, 0, none⟩), .slice a14 (s.map byt ++ t.map byt).length c14] 50 (0, 0)) :: blk14]) rfl ?_
    refine WK.end2 rfl (show _ = .int _ _ from rfl) (show _ = _ from rfl) ?_
    exact ⟨rfl, _, rfl, _, _, _, rfl, by rw [List.map_append]; exact hO14, .inr rfl, fun h => absurd (List.append_eq_nil_iff.1 h) hst⟩

theorem writeByte_tr (m : Imm) {blk : Bun} {b : Nat} {s : List UInt8} (h : IsB blk b s) (c : UInt8) (hr : s.length ≤ 1000000000) :
    Tr Tryd.prog 65 [.pointer (some ⟨b, 0, none⟩), byt c] m [blk] fun u m' own' => m' = m ∧ ∃ blk', own' = [blk'] ∧ IsB blk' b (s ++ [c]) := by
  obtain ⟨q, v, bb, rfl, hO, hq, hnil⟩ := h
  obtain ⟨a, cp, hv, _⟩ := hO.shape
  rw [List.length_map] at hv
  subst hv
  refine Tr.of Tryd.func65 Tryd.ntmps65 rfl rfl fun w => ?_
  refine WK.flat (own' := [[(b, .cells #[.pointer q, .slice a s.length cp] 50 (0, 0))], bb]) rfl ?_
  refine WK.seq ?_
  refine WK.region ?_
  refine WL.asC rfl ?_
  refine WL.nil ?_
  refine WK.seq ?_
  refine WK.region ?_
  refine WL.mvP rfl rfl ?_
  -- call (*strings.Builder).copyCheck
  refine WL.call (copyCheck_tr m b q _ hq) rfl rfl rfl (.here .none) fun u m' back hle hΦ => ?_
  obtain ⟨rfl, rfl, rfl⟩ := hΦ
  refine WL.nil ?_
  refine WK.seq ?_
  refine WK.region ?_
  refine WL.mvP rfl rfl ?_
  refine WL.mvP rfl rfl ?_
  refine WL.nilCheck rfl rfl ?_
  refine WL.fieldO rfl rfl ?_
  refine WL.load1O rfl rfl (by first | exact .here | exact .there .here | exact .there (.there .here) | exact .there (.there (.there .here)) | exact .there (.there (.there (.there .here))) | exact .there (.there (.there (.there (.there .here))))) (show _ = some (.slice _ _ _) from rfl) ?_
  refine WL.mvI rfl rfl ?_
  refine WL.buildSlice rfl [(byt _)] rfl rfl ⟨Fit.one rfl, trivial⟩ rfl fun b13 blk13 v13 hb13 hO13 => ?_
  obtain ⟨a13, c13, hv13, hc13⟩ := hO13.shape; subst hv13
  refine WL.append rfl rfl hO (by first | exact .here | exact .there .here | exact .there (.there .here) | exact .there (.there (.there .here)) | exact .there (.there (.there (.there .here))) | exact .there (.there (.there (.there (.there .here))))) rfl (hO13.sl fun p hp => .inr (At.mem (by first | exact .here | exact .there .here | exact .there (.there .here) | exact .there (.there (.there .here)) | exact .there (.there (.there (.there .here))) | exact .there (.there (.there (.there (.there .here))))) p hp)) rfl rfl (by simp; omega) _ (fun _ => (by first | exact .here | exact .there .here | exact .there (.there .here) | exact .there (.there (.there .here)) | exact .there (.there (.there (.there .here))) | exact .there (.there (.there (.there (.there .here)))))) fun v14 blk14 hO14 => ?_
  obtain ⟨a14, c14, hv14, hc14⟩ := hO14.shape; subst hv14
  refine WL.drop (.drop .refl) ?_
  refine WL.nilCheck rfl rfl ?_
  refine WL.fieldO rfl rfl ?_
  refine WL.store1O rfl (show _ = (.slice _ _ _) from rfl) rfl (by first | exact .here | exact .there .here | exact .there (.there .here) | exact .there (.there (.there .here)) | exact .there (.there (.there (.there .here))) | exact .there (.there (.there (.there (.there .here))))) rfl ?_
  refine WL.nil ?_
  refine WK.seq ?_
  refine WK.region ?_
  refine WL.asC rfl ?_
  refine WL.nil ?_
  refine WK.ret ?_
  -- end
  refine WK.flat (own' := [(b, .cells #[.pointer (some ⟨b, 0, none⟩), .slice a14 (s.map byt ++ [byt c]).length c14] 50 (0, 0)) :: blk14]) rfl ?_
  refine WK.end1 rfl (show _ = _ from rfl) ?_
  exact ⟨rfl, _, rfl, _, _, _, rfl, by rw [List.map_append]; exact hO14, .inr rfl, fun h => by simp at h⟩

theorem string_tr (m : Imm) {blk : Bun} {b : Nat} {s : List UInt8} (h : IsB blk b s) (hs : s.length ≤ 1000000000000) :
    Tr Tryd.prog 23 [.pointer (some ⟨b, 0, none⟩)] m [blk] fun u m' own' => u = str s ∧ m' = m ∧ own' = [] := by
  obtain ⟨q, v, bb, rfl, hO, hq, hnil⟩ := h
  obtain ⟨a, c, hv, hlc⟩ := hO.shape
  rw [List.length_map] at hv hlc
  subst hv
  have hc : a = none ∨ c ≠ 0 := by
    by_cases h0 : s = []
    · subst h0
      have := (hnil rfl).1
      injection this with e
      exact .inl e
    · have : 0 < s.length := List.length_pos_iff.2 h0
      exact .inr (by omega)
  refine Tr.of Tryd.func23 Tryd.ntmps23 rfl rfl fun w => ?_
  refine WK.flat (own' := [[(b, .cells #[.pointer q, .slice a s.length c] 50 (0, 0))], bb]) rfl ?_
  refine WK.seq ?_
  refine WK.region ?_
  refine WL.asC rfl ?_
  refine WL.nil ?_
  refine WK.seq ?_
  -- draw
  refine WK.drawn 10 #[[], [0], [0, 1], [0, 1, 2], [0, 1, 2, 3], [], [5], [5, 6], [5, 6, 7], [5, 6, 7, 8], [0, 1, 2, 3, 4, 5, 6, 7, 8, 9], [0, 1, 2, 3, 4, 5, 6, 7, 8, 9, 10]] mixed_ok (by kernel_rfl) ?_
  refine WR.cons rfl rfl (fun K h => WL.mvP rfl rfl h) ?_
  refine WR.cons rfl rfl (fun K h => WL.nilCheck rfl rfl h) ?_
  refine WR.cons rfl rfl (fun K h => WL.fieldO rfl rfl h) ?_
  refine WR.cons rfl rfl (fun K h => WL.load1O rfl rfl (by first | exact .here | exact .there .here | exact .there (.there .here) | exact .there (.there (.there .here)) | exact .there (.there (.there (.there .here))) | exact .there (.there (.there (.there (.there .here))))) (show _ = some (.slice _ _ _) from rfl) h) ?_
  refine WR.cons rfl rfl (fun K h => WL.unsafeSD rfl rfl hc h) ?_
  refine WR.cons rfl rfl (fun K h => WL.mvP rfl rfl h) ?_
  refine WR.cons rfl rfl (fun K h => WL.nilCheck rfl rfl h) ?_
  refine WR.cons rfl rfl (fun K h => WL.fieldO rfl rfl h) ?_
  refine WR.cons rfl rfl (fun K h => WL.load1O rfl rfl (by first | exact .here | exact .there .here | exact .there (.there .here) | exact .there (.there (.there .here)) | exact .there (.there (.there (.there .here))) | exact .there (.there (.there (.there (.there .here))))) (show _ = some (.slice _ _ _) from rfl) h) ?_
  refine WR.cons rfl rfl (fun K h => WL.lenSl rfl rfl h) ?_
  refine WR.nil ?_
  refine WL.unsafeStr rfl rfl rfl hO (.there .here) (by omega) (by kernel_rfl) ?_
  refine WL.asS rfl rfl ?_
  refine WL.nil ?_
  refine WK.ret ?_
  -- end
  refine WK.drop (.drop (.drop .refl)) ?_
  refine WK.end1 rfl (show _ = str _ from rfl) ?_
  exact ⟨rfl, rfl, rfl⟩
end Go.SL
