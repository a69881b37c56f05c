/- slices.Clone of params; the reference's lines of sixbit: contracts. -/
import Derived.Test.YtbigjpjmdkgjmaaDoorRchk
namespace Go.SL
open Go Go.Proofs
set_option linter.unusedVariables false
set_option linter.unusedSimpArgs false

section
variable {P : Program} {E : Env} {n : Nat} {ds : List Deferred} {m : Imm} {own own' : Own} {ρ : Nat → Value} {ks : List Kt} {ops : Array Oper} {rest : List Oper} {d : Nat} {ty tx tz el : TypeId} {pos : String} {af : Array Edge} {x y : Operand}
theorem WL.eqlSlN {a : Option Addr} {l c : Nat} [hU : Und P tx (.slice el)] (hd : Nat.blt d n = true) (hx : ev ρ x = .slice a l c) (hy : ev ρ y = .slice none 0 0) (h : WL P E n ds m own (upd ρ d (.bool a.isNone)) ops rest ks) :
    WL P E n ds m own ρ ops (⟨some d, .binOp .eql tx x y tz, ty, pos, af, none⟩ :: rest) ks := by
  refine WL.pure hd (by simp) (fun w => ?_) h
  have h1 : ∀ d : Nat, (Op.equalIn (d + 1) tx (.slice a l c) (.slice none 0 0)).run P w = .ok a.isNone w := fun d => by
    cases a <;> simp [Op.equalIn, run_underlying hU.ok, Sem.run_bind, Result.andThen]
  simp [execOp, hx, hy, binOp, eqGuard, Op.equal, Op.maxDepth, h1 9999, Result.andThen]
end
theorem clone_tr {m : Imm} {v : Value} {xs : List Value} (hs : Sl (fun b o => m b = some o) 2 v xs) (hl : xs.length ≤ 1048576) :
    Tr Tryd.prog 36 [v] m [] fun u m' own' => m' = m ∧ ∃ blk, own' = [blk] ∧ OSl blk 2 58 u xs := by
  obtain ⟨a, c, hv, _⟩ := hs.shape
  subst hv
  refine Tr.of Tryd.func36 Tryd.ntmps36 rfl rfl fun w => ?_
  refine WK.seq ?_
  refine WK.region ?_
  refine WL.asC rfl ?_
  refine WL.nil ?_
  refine WK.seq ?_
  refine WK.seq ?_
  refine WK.region ?_
  refine WL.mvL rfl rfl ?_
  refine WL.eqlSlN rfl rfl rfl ?_
  refine WL.nil ?_
  -- cond
  refine WK.cond rfl (fun h1 => ?_) (fun h1 => ?_)
  · refine WK.seq ?_
    refine WK.region ?_
    refine WL.asC rfl ?_
    refine WL.nil ?_
    refine WK.ret ?_
    refine WK.ret_code ?_
    -- end
    refine WK.flat (own' := [[]]) rfl ?_
    refine WK.end1 rfl (show _ = .slice _ _ _ from rfl) ?_
    have h0 : xs = [] := by
      rcases Decidable.em (xs = []) with h | h
      · exact h
      · obtain ⟨_, _, he, _, _, h4⟩ := hs
        obtain ⟨b, off, _, _, _, ha, _⟩ := h4 h
        injection he with he
        rw [he, ha] at h1
        simp at h1
    subst h0
    exact ⟨rfl, [], rfl, OSl.nil _ _ _⟩
  · skip
    refine WK.skip ?_
    refine WK.seq ?_
    refine WK.region ?_
    refine WL.buildSlice rfl [] rfl rfl trivial rfl fun b5 blk5 v5 hb5 hO5 => ?_
    obtain ⟨a5, c5, hv5, hc5⟩ := hO5.shape; subst hv5
    refine WL.mvL rfl rfl ?_
    refine WL.append rfl rfl hO5 (by first | exact .here | exact .there .here | exact .there (.there .here) | exact .there (.there (.there .here)) | exact .there (.there (.there (.there .here))) | exact .there (.there (.there (.there (.there .here))))) rfl (hs.rd (Le.refl _)) rfl rfl (by simp; omega) _ (fun _ => (by first | exact .here | exact .there .here | exact .there (.there .here) | exact .there (.there (.there .here)) | exact .there (.there (.there (.there .here))) | exact .there (.there (.there (.there (.there .here)))))) fun v7 blk7 hO7 => ?_
    obtain ⟨a7, c7, hv7, hc7⟩ := hO7.shape; subst hv7
    refine WL.asL rfl rfl ?_
    refine WL.nil ?_
    refine WK.ret ?_
    -- end
    refine WK.end1 rfl (show _ = .slice _ _ _ from rfl) ?_
    exact ⟨rfl, _, rfl, by simpa using hO7⟩

/-! Pieces of a text, of so many bytes (5.2). -/
def pieces (w : Nat) : Nat → List UInt8 → List (List UInt8)
  | 0, s => if s = [] then [] else [s]
  | n + 1, s => if w < s.length then s.take w :: pieces w n (s.drop w) else if s = [] then [] else [s]
theorem pieces_stop {w n : Nat} {s : List UInt8} (h : ¬ w < s.length) : pieces w n s = if s = [] then [] else [s] := by
  cases n with
  | zero => rfl
  | succ n => simp only [pieces, if_neg h]
theorem rlines_tr (m : Imm) (s : List UInt8) (hs : s.length ≤ 1000000000) :
    Tr Tryd.prog 28 [str s, .int .i64 60] m [] fun u m' own' => m' = m ∧ ∃ blk, own' = [blk] ∧ OSl blk 1 9 u ((pieces 60 s.length s).map str) := by
  refine Tr.of Tryd.func28 Tryd.ntmps28 rfl rfl fun w => ?_
  refine WK.seq ?_
  refine WK.region ?_
  refine WL.asC rfl ?_
  refine WL.nil ?_
  refine WK.seq ?_
  refine WK.region ?_
  refine WL.asC rfl ?_
  refine WL.nil ?_
  refine WK.seq ?_
  refine WK.region ?_
  refine WL.mvI rfl rfl ?_
  refine WL.max rfl rfl rfl ?_
  refine WL.asI rfl rfl ?_
  refine WL.nil ?_
  refine WK.seq ?_
  refine WK.block ?_
  -- loop
  refine WK.flat (own' := [[]]) rfl ?_
  refine WK.loop (G := List UInt8 × Nat × List (List UInt8) × Value × Bun) (fun g => [(0, str g.1), (5, g.2.2.2.1), (1, .int .i64 60)]) (fun _ => m) (fun g => [g.2.2.2.2])
    (fun g => g.1.length ≤ s.length ∧ g.1.length ≤ g.2.1 ∧ g.2.2.1.length + g.1.length ≤ s.length ∧ g.2.2.1 ++ pieces 60 g.2.1 g.1 = pieces 60 s.length s ∧ OSl g.2.2.2.2 1 9 g.2.2.2.1 (g.2.2.1.map str)) (fun g => g.1.length)
    (s, s.length, [], .slice none 0 0, []) ⟨Nat.le_refl _, Nat.le_refl _, by simp, by simp, OSl.nil _ _ _⟩ ⟨rfl, rfl, rfl, trivial⟩ rfl rfl ?_
  rintro ⟨t, n, X, v, bk⟩ ρ ⟨ht, htn, hXt, hX, hO⟩
  replace ht : t.length ≤ s.length := ht
  replace htn : t.length ≤ n := htn
  replace hXt : X.length + t.length ≤ s.length := hXt
  replace hX : X ++ pieces 60 n t = pieces 60 s.length s := hX
  replace hO : OSl bk 1 9 v (X.map str) := hO
  obtain ⟨a5, c5, hv5, _⟩ := hO.shape
  rw [List.length_map] at hv5
  subst hv5
  refine WK.seq ?_
  refine WK.seq ?_
  refine WK.region ?_
  refine WL.mvS rfl rfl ?_
  refine WL.lenS rfl rfl ?_
  refine WL.mvI rfl rfl ?_
  refine WL.gtr rfl rfl rfl ?_
  refine WL.nil ?_
  -- cond
  refine WK.cond rfl (fun h => ?_) (fun h => ?_)
  · have hlt : 60 < t.length := by simp at h; omega
    obtain ⟨n, rfl⟩ : ∃ n', n = n' + 1 := ⟨n - 1, by omega⟩
    refine WK.skip ?_
    refine WK.block ?_
    refine WK.seq ?_
    refine WK.region ?_
    refine WL.mvL rfl rfl ?_
    refine WL.mvS rfl rfl ?_
    refine WL.mvI rfl rfl ?_
    refine WL.sliceSH rfl rfl rfl (hi' := 60) rfl (by show 60 ≤ t.length; omega) ?_
    refine WL.buildSlice rfl [(str _)] rfl rfl ⟨Fit.one rfl, trivial⟩ rfl fun b16 blk16 v16 hb16 hO16 => ?_
    obtain ⟨a16, c16, hv16, hc16⟩ := hO16.shape; subst hv16
    refine WL.append rfl rfl hO (by first | exact .here | exact .there .here | exact .there (.there .here) | exact .there (.there (.there .here)) | exact .there (.there (.there (.there .here))) | exact .there (.there (.there (.there (.there .here))))) rfl (hO16.sl fun p hp => .inr (At.mem (by first | exact .here | exact .there .here | exact .there (.there .here) | exact .there (.there (.there .here)) | exact .there (.there (.there (.there .here))) | exact .there (.there (.there (.there (.there .here))))) p hp)) rfl rfl (by simp; omega) _ (fun _ => (by first | exact .here | exact .there .here | exact .there (.there .here) | exact .there (.there (.there .here)) | exact .there (.there (.there (.there .here))) | exact .there (.there (.there (.there (.there .here)))))) fun v17 blk17 hO17 => ?_
    obtain ⟨a17, c17, hv17, hc17⟩ := hO17.shape; subst hv17
    refine WL.drop (.drop .refl) ?_
    refine WL.asL rfl rfl ?_
    refine WL.nil ?_
    refine WK.region ?_
    refine WL.mvS rfl rfl ?_
    refine WL.mvI rfl rfl ?_
    refine WL.sliceSL rfl rfl rfl (lo' := 60) rfl (by show 60 ≤ t.length; omega) ?_
    refine WL.asS rfl rfl ?_
    refine WL.nil ?_
    refine WK.blk ?_
    -- again
    refine WK.again (t.drop 60, n, X ++ [t.take 60], _, _) ⟨?_, ?_, ?_, ?_, ?_⟩ ?_ ⟨rfl, rfl, rfl, trivial⟩ rfl rfl
    · show (t.drop _).length ≤ _
      rw [List.length_drop]; omega
    · show (t.drop _).length ≤ n
      rw [List.length_drop]; omega
    · show (X ++ [_]).length + (t.drop _).length ≤ _
      rw [List.length_drop, List.length_append, List.length_singleton]; omega
    · show (X ++ [_]) ++ pieces 60 n (t.drop _) = _
      rw [← hX, pieces, if_pos hlt]; simp
    · show OSl _ 1 _ _ ((X ++ [_]).map str)
      rw [List.map_append]
      exact hO17
    · show (t.drop _).length < t.length
      rw [List.length_drop]; omega
  · skip
    have hlt : ¬ 60 < t.length := by simp at h; omega
    refine WK.exit ?_
    refine WK.exit_code ?_
    refine WK.exit_lp ?_
    refine WK.exit_hit ?_
    refine WK.seq ?_
    refine WK.seq ?_
    refine WK.region ?_
    refine WL.mvS rfl rfl ?_
    refine WL.neqS rfl rfl rfl ?_
    refine WL.nil ?_
    -- cond
    refine WK.cond rfl (fun h2 => ?_) (fun h2 => ?_)
    · have hne : t ≠ [] := by simpa using h2
      refine WK.region ?_
      refine WL.mvL rfl rfl ?_
      refine WL.mvS rfl rfl ?_
      refine WL.buildSlice rfl [(str _)] rfl rfl ⟨Fit.one rfl, trivial⟩ rfl fun b25 blk25 v25 hb25 hO25 => ?_
      obtain ⟨a25, c25, hv25, hc25⟩ := hO25.shape; subst hv25
      refine WL.append rfl rfl hO (by first | exact .here | exact .there .here | exact .there (.there .here) | exact .there (.there (.there .here)) | exact .there (.there (.there (.there .here))) | exact .there (.there (.there (.there (.there .here))))) rfl (hO25.sl fun p hp => .inr (At.mem (by first | exact .here | exact .there .here | exact .there (.there .here) | exact .there (.there (.there .here)) | exact .there (.there (.there (.there .here))) | exact .there (.there (.there (.there (.there .here))))) p hp)) rfl rfl (by simp; omega) _ (fun _ => (by first | exact .here | exact .there .here | exact .there (.there .here) | exact .there (.there (.there .here)) | exact .there (.there (.there (.there .here))) | exact .there (.there (.there (.there (.there .here)))))) fun v26 blk26 hO26 => ?_
      obtain ⟨a26, c26, hv26, hc26⟩ := hO26.shape; subst hv26
      refine WL.drop (.drop .refl) ?_
      refine WL.asL rfl rfl ?_
      refine WL.nil ?_
      refine WK.seq ?_
      refine WK.region ?_
      refine WL.mvL rfl rfl ?_
      refine WL.asL rfl rfl ?_
      refine WL.nil ?_
      refine WK.ret ?_
      -- end
      refine WK.end1 rfl (show _ = .slice _ _ _ from rfl) ?_
      refine ⟨rfl, _, rfl, ?_⟩
      rw [← hX, pieces_stop hlt, if_neg hne, List.map_append]
      exact hO26
    · skip
      have hne : t = [] := by simpa using h2
      refine WK.skip ?_
      refine WK.seq ?_
      refine WK.region ?_
      refine WL.mvL rfl rfl ?_
      refine WL.asL rfl rfl ?_
      refine WL.nil ?_
      refine WK.ret ?_
      -- end
      refine WK.end1 rfl (show _ = .slice _ _ _ from rfl) ?_
      refine ⟨rfl, _, rfl, ?_⟩
      rw [← hX, pieces_stop hlt, if_pos hne, List.append_nil]
      simpa using hO
end Go.SL
