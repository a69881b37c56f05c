/- sixbit.Lines$1 over abstract rounds: contract. -/
import Derived.Test.YtbigjpjmdkgjmaaDoorSixL
namespace Go.SL
open Go Go.Proofs
set_option linter.unusedVariables false
set_option linter.unusedSimpArgs false

theorem Lend.all : ∀ o : Own, Lend o o []
  | [] => .none
  | _ :: o => .here (Lend.all o)
def rest (w : Nat) (s : List UInt8) : Nat → List UInt8
  | 0 => s
  | i + 1 => (rest w s i).drop w
theorem slinesF_tr {l : Nat} {rec : Loop} (hps : rec.params.size = 1) {s : List UInt8} {k : Nat} (hk : 1 ≤ k) (hk2 : k ≤ 1000000) (hs : s.length ≤ 1000000000) {b2 b3 : Nat} (J : Nat → Imm → Own → Prop)
    (hJin : ∀ i m own, J i m own → (l, Obj.loop rec) ∈ own.flatten)
    (hround : ∀ i m own, rest k s i ≠ [] → J i m own → RTr Tryd.prog l rec.fn (yieldTmps rec [str ((rest k s i).take k)]) rec.assign rec.body m own (fun v m' own' => v = .bool true ∧ J (i + 1) m' own'))
    {m : Imm} {own : Own} (h0 : J 0 m own) :
    Tr Tryd.prog 64 [.func (.yield l) #[] #[], .pointer (some ⟨b2, 0, none⟩), .pointer (some ⟨b3, 0, none⟩)] m ([(b3, .cells #[.int .i64 (k : Nat)] 3 (0, 0))] :: [(b2, .cells #[str s] 9 (0, 0))] :: own)
      fun u m' own' => ∃ i own1, rest k s i = [] ∧ J i m' own1 ∧ own' = [(b3, .cells #[.int .i64 (k : Nat)] 3 (0, 0))] :: [(b2, .cells #[str s] 9 (0, 0))] :: own1 := by
  refine Tr.of Tryd.func64 Tryd.ntmps64 rfl rfl fun w => ?_
  refine WK.seq ?_
  refine WK.region ?_
  refine WL.load1O rfl rfl (by first | exact .here | exact .there .here | exact .there (.there .here) | exact .there (.there (.there .here)) | exact .there (.there (.there (.there .here))) | exact .there (.there (.there (.there (.there .here))))) (show _ = some (str _) from rfl) ?_
  refine WL.asS rfl rfl ?_
  refine WL.nil ?_
  refine WK.block ?_
  -- loop
  refine WK.loop (G := Nat × Imm × Own) (fun g => [(4, str (rest k s g.1)), (0, .func (.yield l) #[] #[]), (2, .pointer (some ⟨b3, 0, none⟩))]) (fun g => g.2.1) (fun g => [(b3, .cells #[.int .i64 (k : Nat)] 3 (0, 0))] :: [(b2, .cells #[str s] 9 (0, 0))] :: g.2.2)
    (fun g => J g.1 g.2.1 g.2.2 ∧ (rest k s g.1).length ≤ s.length) (fun g => (rest k s g.1).length) (0, m, own) ⟨h0, Nat.le_refl _⟩ ⟨rfl, rfl, rfl, trivial⟩ rfl rfl ?_
  rintro ⟨i, m1, own1⟩ ρ ⟨hJ, hle⟩
  replace hJ : J i m1 own1 := hJ
  replace hle : (rest k s i).length ≤ s.length := hle
  refine WK.seq ?_
  refine WK.seq ?_
  refine WK.region ?_
  refine WL.mvS rfl rfl ?_
  refine WL.neqS rfl rfl rfl ?_
  refine WL.nil ?_
  -- cond
  refine WK.cond rfl (fun h => ?_) (fun h => ?_)
  · have hne : rest k s i ≠ [] := by simpa using h
    have hpos : 0 < (rest k s i).length := List.length_pos_iff.2 hne
    have emin : min (k : Int) ((rest k s i).length : Int) = ((min k (rest k s i).length : Nat) : Int) := by omega
    have etake : (rest k s i).take (min k (rest k s i).length) = (rest k s i).take k := by rw [List.take_eq_take_iff]; omega
    have edrop : (rest k s i).drop (min k (rest k s i).length) = rest k s (i + 1) := by
      show _ = (rest k s i).drop k
      rcases Nat.le_total k (rest k s i).length with h | h
      · rw [Nat.min_eq_left h]
      · rw [Nat.min_eq_right h, List.drop_length, List.drop_eq_nil_of_le h]
    refine WK.skip ?_
    refine WK.block ?_
    refine WK.seq ?_
    refine WK.region ?_
    refine WL.load1O rfl rfl (by first | exact .here | exact .there .here | exact .there (.there .here) | exact .there (.there (.there .here)) | exact .there (.there (.there (.there .here))) | exact .there (.there (.there (.there (.there .here))))) (show _ = some (.int _ _) from rfl) ?_
    refine WL.mvS rfl rfl ?_
    refine WL.lenS rfl rfl ?_
    refine WL.min rfl rfl rfl ?_
    refine WL.asI rfl rfl ?_
    refine WL.nil ?_
    refine WK.seq ?_
    refine WK.seq ?_
    refine WK.region ?_
    refine WL.mvF rfl rfl ?_
    refine WL.mvS rfl rfl ?_
    refine WL.mvI rfl rfl ?_
    refine WL.sliceSH rfl rfl rfl (hi' := min k (rest k s i).length) emin (Nat.min_le_right _ _) ?_
    -- call value
    rw [etake]
    refine WL.callY (rec := rec) (by have := hJin i m1 own1 hJ; simp only [List.flatten_cons, List.mem_append]; exact .inr (.inr this)) (hround i m1 own1 hne hJ) rfl rfl rfl (by simp [hps]) (.there (.there (Lend.all own1))) fun u m2 back hle2 hΦ => ?_
    obtain ⟨hu, hJ2⟩ := hΦ
    subst hu
    refine WL.perm List.perm_append_comm ?_
    refine WL.not rfl rfl ?_
    refine WL.nil ?_
    -- cond
    refine WK.cond rfl (fun h2 => ?_) (fun h2 => ?_)
    · simp at h2
    · skip
      refine WK.skip ?_
      refine WK.region ?_
      refine WL.mvS rfl rfl ?_
      refine WL.mvI rfl rfl ?_
      refine WL.sliceSL rfl rfl rfl (lo' := min k (rest k s i).length) emin (Nat.min_le_right _ _) ?_
      refine WL.asS rfl rfl ?_
      refine WL.nil ?_
      refine WK.blk ?_
      -- again
      have hl1 : (rest k s (i + 1)).length = (rest k s i).length - k := by show ((rest k s i).drop k).length = _; rw [List.length_drop]
      refine WK.again (i + 1, m2, back) ⟨hJ2, ?_⟩ ?_ ⟨congrArg str edrop, rfl, rfl, trivial⟩ rfl rfl
      · show (rest k s (i + 1)).length ≤ _; omega
      · show (rest k s (i + 1)).length < (rest k s i).length; omega
  · skip
    have hnil : rest k s i = [] := by simpa using h
    refine WK.exit ?_
    refine WK.exit_code ?_
    refine WK.exit_lp ?_
    refine WK.exit_hit ?_
    -- end
    refine WK.end0 rfl  ?_
    exact ⟨i, own1, hnil, hJ, rfl⟩
end Go.SL
