/- A card's text and what is wrong with it: program and reference: contracts; the law. -/
import Derived.Test.YtbigjpjmdkgjmaaDoorRln
namespace Go.SL
open Go Go.Proofs
set_option linter.unusedVariables false
set_option linter.unusedSimpArgs false

def printC (c : Crd) : List UInt8 × Int :=
  if decide ((3 : Int) < deepF 8 c) then ([], 9) else if !decide (chkC 3 c = 0) then ([], chkC 3 c) else
    if decide ((4000 : Int) < (joinL (cardL 3 c)).length) then ([], 8) else (joinL (cardL 3 c), 0)
theorem printC_bad {c : Crd} (h : ¬ (printC c).2 = 0) : (printC c).1 = [] := by
  unfold printC at h ⊢
  split
  · rfl
  · split
    · rfl
    · split
      · rfl
      · rename_i h1 h2 h3
        rw [if_neg h1, if_neg h2, if_neg h3] at h
        exact absurd rfl h
theorem printC_good {c : Crd} (h : (printC c).2 = 0) : deepF 8 c ≤ 3 ∧ chkC 3 c = 0 ∧ printC c = (joinL (cardL 3 c), 0) := by
  unfold printC at h ⊢
  split
  · rename_i h1; rw [if_pos h1] at h; cases h
  · rename_i h1
    rw [if_neg h1] at h
    split
    · rename_i h2; rw [if_pos h2] at h; exact absurd h (by simpa using h2)
    · rename_i h2
      rw [if_neg h2] at h
      split
      · rename_i h3; rw [if_pos h3] at h; cases h
      · refine ⟨by simp at h1; omega, by simpa using h2, rfl⟩
theorem WL.front {P : Program} {E : Env} {n : Nat} {ds : List Deferred} {m : Imm} {own : Own} {ρ : Nat → Value} {ks : List Kt} {ops : Array Oper} {l : List Oper} (h : WL P E n ds m ([] :: own) ρ ops l ks) : WL P E n ds m own ρ ops l ks := WL.flat (own' := [] :: own) rfl h
theorem Tr.mono {P : Program} {f : FuncId} {args : List Value} {m : Imm} {own : Own} {Φ Ψ : Value → Imm → Own → Prop} (h : Tr P f args m own Φ) (hk : ∀ v m' own', Φ v m' own' → Ψ v m' own') : Tr P f args m own Ψ := fun w hi =>
  (h w hi).mono fun e w' ⟨v, m', own', h1, h2, h3⟩ => ⟨v, m', own', h1, hk _ _ _ h2, h3⟩
theorem Pm.of_tr {P : Program} {f : FuncId} {args : List Value} {R : Nat → Obj → Prop} {v : Value} (h : ∀ m : Imm, (∀ b o, R b o → m b = some o) → Tr P f args m [] fun u _ _ => u = v) : Pm P f args R v := by
  intro w hR
  refine (h (fun b => w.heap[b]?) hR w ⟨fun _ _ h => h, fun _ h => (by cases h), fun _ h => (by cases h), List.nodup_nil⟩).mono ?_
  rintro e w' ⟨u, m', own', rfl, rfl, st⟩
  exact ⟨rfl, st.os, st.tape, st.output, st.size, fun b hb => st.keep b hb (by simp [keys])⟩
theorem RepC.to {R : Nat → Obj → Prop} : ∀ {k d : Nat} {v : Value} {c : Crd}, d ≤ k → RepC R k v c → RepC R d v c
  | 0, d, _, _, h, hc => by obtain rfl : d = 0 := by omega
                            exact hc
  | k + 1, d, _, _, h, hc => by
    by_cases e : d = k + 1
    · subst e; exact hc
    · exact RepC.to (by omega) hc.less
theorem vprint_tr {m : Imm} {v : Value} {c : Crd} (hT : Tabs fun b o => m b = some o) (hc : RepC (fun b o => m b = some o) 8 v c) :
    Tr Tryd.prog 5 [v] m [] fun u m' own' => m' = m ∧ own' = [] ∧ u = .tuple #[str (printC c).1, .int .i64 (printC c).2] := by
  have hc3 := hc.to (d := 3) (by decide)
  obtain ⟨a, l, k, rfl⟩ := hc.slice
  refine Tr.of Tryd.func5 Tryd.ntmps5 rfl rfl fun w => ?_
  refine WK.seq ?_
  refine WK.region ?_
  refine WL.box rfl rfl fun b1 => ?_
  refine WL.asC rfl ?_
  refine WL.asC rfl ?_
  refine WL.nil ?_
  refine WK.seq ?_
  refine WK.seq ?_
  refine WK.region ?_
  refine WL.loadAO rfl rfl (by first | exact .here | exact .there .here | exact .there (.there .here) | exact .there (.there (.there .here)) | exact .there (.there (.there (.there .here))) | exact .there (.there (.there (.there (.there .here))))) (by rfl) ?_
  refine WL.callm (Deep_pm (hc.mono fun b o h => .inl h)) rfl rfl rfl ?_
  refine WL.gtr rfl rfl rfl ?_
  refine WL.nil ?_
  -- cond
  refine WK.cond rfl (fun e1 => ?_) (fun e1 => ?_)
  · refine WK.seq ?_
    refine WK.region ?_
    refine WL.asC rfl ?_
    refine WL.asC rfl ?_
    refine WL.nil ?_
    refine WK.ret ?_
    refine WK.ret_code ?_
    -- end
    refine WK.drop (.drop .refl) ?_
    refine WK.end2 rfl (show _ = str _ from rfl) (show _ = .int _ _ from rfl) ?_
    exact ⟨rfl, rfl, by rw [printC, if_pos e1]⟩
  · skip
    have hdp : Deepest 3 c := deepest_of 3 8 c (by decide) (by simp at e1; omega)
    refine WK.skip ?_
    refine WK.seq ?_
    refine WK.region ?_
    refine WL.loadAO rfl rfl (by first | exact .here | exact .there .here | exact .there (.there .here) | exact .there (.there (.there .here)) | exact .there (.there (.there (.there .here))) | exact .there (.there (.there (.there (.there .here))))) (by rfl) ?_
    -- call cardcase/vcard.appendLines
    refine WL.front ?_
    refine WL.call (appL_tr 3 (L := []) hT hc3 hdp (OSl.nil _ _ _) (by decide)) rfl rfl rfl (.here .none) ?_
    rintro u m2 back hle ⟨hm2, a6, l6, k6, bk6, hu, hbk, hO6⟩; subst m2; subst hu; subst hbk
    refine WL.mvT rfl rfl ?_
    refine WL.extract rfl rfl rfl ?_
    refine WL.extract rfl rfl rfl ?_
    refine WL.asL rfl rfl ?_
    refine WL.asI rfl rfl ?_
    refine WL.nil ?_
    refine WK.seq ?_
    refine WK.seq ?_
    refine WK.region ?_
    refine WL.mvI rfl rfl ?_
    refine WL.neq rfl rfl rfl ?_
    refine WL.nil ?_
    -- cond
    refine WK.cond rfl (fun e2 => ?_) (fun e2 => ?_)
    · refine WK.seq ?_
      refine WK.region ?_
      refine WL.mvI rfl rfl ?_
      refine WL.asC rfl ?_
      refine WL.asI rfl rfl ?_
      refine WL.nil ?_
      refine WK.ret ?_
      refine WK.ret_code ?_
      -- end
      refine WK.drop (.drop (.drop .refl)) ?_
      refine WK.end2 rfl (show _ = str _ from rfl) (show _ = .int _ _ from rfl) ?_
      exact ⟨rfl, rfl, by rw [printC, if_neg (by rw [e1]; decide), if_pos e2]⟩
    · skip
      have e3 : chkC 3 c = 0 := by simpa using e2
      have hO := hO6 e3
      have hjl := cardL_len 3 c e3
      have hcap : capN 3 ≤ 1000000000 := by decide
      rw [List.nil_append] at hO
      refine WK.skip ?_
      refine WK.seq ?_
      refine WK.region ?_
      refine WL.mvL rfl rfl ?_
      refine WL.callm (join_pm (hO.sl fun p hp => .inr (At.mem .here p hp)) (by omega)) rfl rfl rfl ?_
      refine WL.asS rfl rfl ?_
      refine WL.nil ?_
      refine WK.seq ?_
      refine WK.seq ?_
      refine WK.region ?_
      refine WL.mvS rfl rfl ?_
      refine WL.lenS rfl rfl ?_
      refine WL.gtr rfl rfl rfl ?_
      refine WL.nil ?_
      -- cond
      refine WK.cond rfl (fun e4 => ?_) (fun e4 => ?_)
      · refine WK.seq ?_
        refine WK.region ?_
        refine WL.asC rfl ?_
        refine WL.asC rfl ?_
        refine WL.nil ?_
        refine WK.ret ?_
        refine WK.ret_code ?_
        -- end
        refine WK.drop (.drop (.drop .refl)) ?_
        refine WK.end2 rfl (show _ = str _ from rfl) (show _ = .int _ _ from rfl) ?_
        exact ⟨rfl, rfl, by rw [printC, if_neg (by rw [e1]; decide), if_neg (by rw [e2]; decide), if_pos e4]⟩
      · skip
        refine WK.skip ?_
        refine WK.seq ?_
        refine WK.region ?_
        refine WL.mvS rfl rfl ?_
        refine WL.asS rfl rfl ?_
        refine WL.asC rfl ?_
        refine WL.nil ?_
        refine WK.ret ?_
        -- end
        refine WK.drop (.drop (.drop .refl)) ?_
        refine WK.end2 rfl (show _ = str _ from rfl) (show _ = .int _ _ from rfl) ?_
        exact ⟨rfl, rfl, by rw [printC, if_neg (by rw [e1]; decide), if_neg (by rw [e2]; decide), if_neg (by rw [e4]; decide)]⟩
theorem vcheckC_tr {m : Imm} {v : Value} {c : Crd} (hT : Tabs fun b o => m b = some o) (hc : RepC (fun b o => m b = some o) 8 v c) :
    Tr Tryd.prog 7 [v] m [] fun u m' own' => m' = m ∧ own' = [] ∧ u = .int .i64 (printC c).2 := by
  obtain ⟨a, l, k, rfl⟩ := hc.slice
  refine Tr.of Tryd.func7 Tryd.ntmps7 rfl rfl fun w => ?_
  refine WK.seq ?_
  refine WK.region ?_
  refine WL.box rfl rfl fun b1 => ?_
  refine WL.asC rfl ?_
  refine WL.nil ?_
  refine WK.seq ?_
  refine WK.region ?_
  refine WL.loadAO rfl rfl (by first | exact .here | exact .there .here | exact .there (.there .here) | exact .there (.there (.there .here)) | exact .there (.there (.there (.there .here))) | exact .there (.there (.there (.there (.there .here))))) (by rfl) ?_
  refine WL.call (vprint_tr hT hc) rfl rfl rfl .none ?_
  rintro u m2 back hle ⟨hm2, hbk, hu⟩; subst m2; subst hu; subst hbk
  refine WL.mvT rfl rfl ?_
  refine WL.extract rfl rfl rfl ?_
  refine WL.extract rfl rfl rfl ?_
  refine WL.asS rfl rfl ?_
  refine WL.asI rfl rfl ?_
  refine WL.nil ?_
  refine WK.seq ?_
  refine WK.region ?_
  refine WL.mvI rfl rfl ?_
  refine WL.asI rfl rfl ?_
  refine WL.nil ?_
  refine WK.ret ?_
  -- end
  refine WK.drop (.drop .refl) ?_
  refine WK.end1 rfl (show _ = .int _ _ from rfl) ?_
  exact ⟨rfl, rfl, rfl⟩
theorem vcheckC_pm {R : Nat → Obj → Prop} {v : Value} {c : Crd} (hT : Tabs R) (hc : RepC R 8 v c) : Pm Tryd.prog 7 [v] R (.int .i64 (printC c).2) :=
  Pm.of_tr fun m hR => (vcheckC_tr (hT.mono hR) (hc.mono hR)).mono fun u m' own' h => h.2.2
theorem rcheckK_tr {m : Imm} {v : Value} {c : Crd} (hc : RepC (fun b o => m b = some o) 8 v c) :
    Tr Tryd.prog 13 [v] m [] fun u m' own' => m' = m ∧ own' = [] ∧ u = .int .i64 (printC c).2 := by
  have hc3 := hc.to (d := 3) (by decide)
  obtain ⟨a, l, k, rfl⟩ := hc.slice
  refine Tr.of Tryd.func13 Tryd.ntmps13 rfl rfl fun w => ?_
  refine WK.seq ?_
  refine WK.region ?_
  refine WL.box rfl rfl fun b1 => ?_
  refine WL.asC rfl ?_
  refine WL.nil ?_
  refine WK.seq ?_
  refine WK.seq ?_
  refine WK.region ?_
  refine WL.loadAO rfl rfl (by first | exact .here | exact .there .here | exact .there (.there .here) | exact .there (.there (.there .here)) | exact .there (.there (.there (.there .here))) | exact .there (.there (.there (.there (.there .here))))) (by rfl) ?_
  refine WL.callm (rDeep_pm (hc.mono fun b o h => .inl h)) rfl rfl rfl ?_
  refine WL.gtr rfl rfl rfl ?_
  refine WL.nil ?_
  -- cond
  refine WK.cond rfl (fun e1 => ?_) (fun e1 => ?_)
  · refine WK.seq ?_
    refine WK.region ?_
    refine WL.asC rfl ?_
    refine WL.nil ?_
    refine WK.ret ?_
    refine WK.ret_code ?_
    -- end
    refine WK.drop (.drop .refl) ?_
    refine WK.end1 rfl (show _ = .int _ _ from rfl) ?_
    exact ⟨rfl, rfl, by rw [printC, if_pos e1]⟩
  · skip
    have hdp : Deepest 3 c := deepest_of 3 8 c (by decide) (by simp at e1; omega)
    refine WK.skip ?_
    refine WK.seq ?_
    refine WK.region ?_
    refine WL.loadAO rfl rfl (by first | exact .here | exact .there .here | exact .there (.there .here) | exact .there (.there (.there .here)) | exact .there (.there (.there (.there .here))) | exact .there (.there (.there (.there (.there .here))))) (by rfl) ?_
    refine WL.callm (rcheckC_pm 3 (hc3.mono fun b o h => .inl h) hdp) rfl rfl rfl ?_
    refine WL.asI rfl rfl ?_
    refine WL.nil ?_
    refine WK.seq ?_
    refine WK.seq ?_
    refine WK.region ?_
    refine WL.mvI rfl rfl ?_
    refine WL.eql rfl rfl rfl ?_
    refine WL.mvB rfl rfl ?_
    -- guard
    refine WL.guardSplit rfl rfl (fun e2 => ?_) (fun e2 => ?_)
    · have e3 : chkC 3 c = 0 := by simpa using e2
      have hjl := cardL_len 3 c e3
      have hcap : capN 3 ≤ 1000000000 := by decide
      refine WL.loadAO rfl rfl (by first | exact .here | exact .there .here | exact .there (.there .here) | exact .there (.there (.there .here)) | exact .there (.there (.there (.there .here))) | exact .there (.there (.there (.there (.there .here))))) (by rfl) ?_
      refine WL.guard rfl e2 ?_
      refine WL.call (rlinesC_tr 3 hc3 hdp e3 hcap) rfl rfl rfl .none ?_
      rintro u m2 back hle ⟨hm2, a6, l6, k6, bk6, hu, hbk, hO6⟩; subst m2; subst hu; subst hbk
      refine WL.guard rfl e2 ?_
      refine WL.callm (rjoin_pm (hO6.sl fun p hp => .inr (At.mem .here p hp)) (by omega)) rfl rfl rfl ?_
      refine WL.guard rfl e2 ?_
      refine WL.lenS rfl rfl ?_
      refine WL.guard rfl e2 ?_
      refine WL.gtr rfl rfl rfl ?_
      refine WL.pickT rfl rfl e2 rfl ?_
      refine WL.nil ?_
      -- cond
      refine WK.cond rfl (fun e4 => ?_) (fun e4 => ?_)
      · refine WK.region ?_
        refine WL.asC rfl ?_
        refine WL.nil ?_
        refine WK.seq ?_
        refine WK.region ?_
        refine WL.mvI rfl rfl ?_
        refine WL.asI rfl rfl ?_
        refine WL.nil ?_
        refine WK.ret ?_
        -- end
        refine WK.drop (.drop (.drop .refl)) ?_
        refine WK.end1 rfl (show _ = .int _ _ from rfl) ?_
        exact ⟨rfl, rfl, by rw [printC, if_neg (by rw [e1]; decide), if_neg (by rw [e3]; decide), if_pos e4]⟩
      · skip
        refine WK.skip ?_
        refine WK.seq ?_
        refine WK.region ?_
        refine WL.mvI rfl rfl ?_
        refine WL.asI rfl rfl ?_
        refine WL.nil ?_
        refine WK.ret ?_
        -- end
        refine WK.drop (.drop (.drop .refl)) ?_
        refine WK.end1 rfl (show _ = .int _ _ from rfl) ?_
        exact ⟨rfl, rfl, by rw [printC, if_neg (by rw [e1]; decide), if_neg (by rw [e3]; decide), if_neg (by rw [e4]; decide), e3]⟩
    · skip
      have e3 : ¬ chkC 3 c = 0 := by simpa using e2
      refine WL.guardSkip rfl e2 rfl ?_
      refine WL.guardSkip rfl e2 rfl ?_
      refine WL.guardSkip rfl e2 rfl ?_
      refine WL.guardSkip rfl e2 rfl ?_
      refine WL.pickF rfl rfl e2 rfl ?_
      refine WL.nil ?_
      refine WK.cond_f rfl ?_
      refine WK.skip ?_
      refine WK.seq ?_
      refine WK.region ?_
      refine WL.mvI rfl rfl ?_
      refine WL.asI rfl rfl ?_
      refine WL.nil ?_
      refine WK.ret ?_
      -- end
      refine WK.drop (.drop .refl) ?_
      refine WK.end1 rfl (show _ = .int _ _ from rfl) ?_
      exact ⟨rfl, rfl, by rw [printC, if_neg (by rw [e1]; decide), if_pos (by simpa using e3)]⟩
theorem rprintC_tr {m : Imm} {v : Value} {c : Crd} (hc : RepC (fun b o => m b = some o) 8 v c) :
    Tr Tryd.prog 6 [v] m [] fun u m' own' => m' = m ∧ own' = [] ∧ u = .tuple #[str (printC c).1, .int .i64 (printC c).2] := by
  have hc3 := hc.to (d := 3) (by decide)
  obtain ⟨a, l, k, rfl⟩ := hc.slice
  refine Tr.of Tryd.func6 Tryd.ntmps6 rfl rfl fun w => ?_
  refine WK.seq ?_
  refine WK.region ?_
  refine WL.box rfl rfl fun b1 => ?_
  refine WL.asC rfl ?_
  refine WL.asC rfl ?_
  refine WL.nil ?_
  refine WK.seq ?_
  refine WK.region ?_
  refine WL.loadAO rfl rfl (by first | exact .here | exact .there .here | exact .there (.there .here) | exact .there (.there (.there .here)) | exact .there (.there (.there (.there .here))) | exact .there (.there (.there (.there (.there .here))))) (by rfl) ?_
  refine WL.call (rcheckK_tr hc) rfl rfl rfl .none ?_
  rintro u m2 back hle ⟨hm2, hbk, hu⟩; subst m2; subst hu; subst hbk
  refine WL.asI rfl rfl ?_
  refine WL.nil ?_
  refine WK.seq ?_
  refine WK.seq ?_
  refine WK.region ?_
  refine WL.mvI rfl rfl ?_
  refine WL.neq rfl rfl rfl ?_
  refine WL.nil ?_
  -- cond
  refine WK.cond rfl (fun e1 => ?_) (fun e1 => ?_)
  · refine WK.seq ?_
    refine WK.region ?_
    refine WL.mvI rfl rfl ?_
    refine WL.asC rfl ?_
    refine WL.asI rfl rfl ?_
    refine WL.nil ?_
    refine WK.ret ?_
    refine WK.ret_code ?_
    -- end
    refine WK.drop (.drop .refl) ?_
    refine WK.end2 rfl (show _ = str _ from rfl) (show _ = .int _ _ from rfl) ?_
    have e2 : ¬ (printC c).2 = 0 := by simpa using e1
    exact ⟨rfl, rfl, by rw [printC_bad e2]⟩
  · skip
    have e2 : (printC c).2 = 0 := by simpa using e1
    obtain ⟨e3, e4, e5⟩ := printC_good e2
    have hdp : Deepest 3 c := deepest_of 3 8 c (by decide) e3
    have hjl := cardL_len 3 c e4
    have hcap : capN 3 ≤ 1000000000 := by decide
    refine WK.skip ?_
    refine WK.seq ?_
    refine WK.region ?_
    refine WL.loadAO rfl rfl (by first | exact .here | exact .there .here | exact .there (.there .here) | exact .there (.there (.there .here)) | exact .there (.there (.there (.there .here))) | exact .there (.there (.there (.there (.there .here))))) (by rfl) ?_
    refine WL.call (rlinesC_tr 3 hc3 hdp e4 hcap) rfl rfl rfl .none ?_
    rintro u m2 back hle ⟨hm2, a6, l6, k6, bk6, hu, hbk, hO6⟩; subst m2; subst hu; subst hbk
    refine WL.callm (rjoin_pm (hO6.sl fun p hp => .inr (At.mem .here p hp)) (by omega)) rfl rfl rfl ?_
    refine WL.asS rfl rfl ?_
    refine WL.asC rfl ?_
    refine WL.nil ?_
    refine WK.ret ?_
    -- end
    refine WK.drop (.drop (.drop .refl)) ?_
    refine WK.end2 rfl (show _ = str _ from rfl) (show _ = .int _ _ from rfl) ?_
    exact ⟨rfl, rfl, by rw [e5]⟩
theorem law_tr {m : Imm} {v : Value} {c : Crd} (hT : Tabs fun b o => m b = some o) (hc : RepC (fun b o => m b = some o) 12 v c) :
    Tr Tryd.prog 3 [v] m [] fun u m' own' => m' = m ∧ own' = [] ∧ u = .bool true := by
  have hc8 := hc.to (d := 8) (by decide)
  obtain ⟨a, l, k, rfl⟩ := hc.slice
  refine Tr.of Tryd.func3 Tryd.ntmps3 rfl rfl fun w => ?_
  refine WK.seq ?_
  refine WK.region ?_
  refine WL.box rfl rfl fun b1 => ?_
  refine WL.asC rfl ?_
  refine WL.nil ?_
  refine WK.seq ?_
  refine WK.seq ?_
  refine WK.region ?_
  refine WL.loadAO rfl rfl (by first | exact .here | exact .there .here | exact .there (.there .here) | exact .there (.there (.there .here)) | exact .there (.there (.there (.there .here))) | exact .there (.there (.there (.there (.there .here))))) (by rfl) ?_
  refine WL.call (great_tr hc) rfl rfl rfl .none ?_
  rintro u m2 back hle ⟨hm2, hbk, bg, hu⟩; subst m2; subst hu; subst hbk
  refine WL.nil ?_
  -- cond
  refine WK.cond rfl (fun e1 => ?_) (fun e1 => ?_)
  · refine WK.seq ?_
    refine WK.region ?_
    refine WL.asC rfl ?_
    refine WL.nil ?_
    refine WK.ret ?_
    refine WK.ret_code ?_
    -- end
    refine WK.drop (.drop .refl) ?_
    refine WK.end1 rfl (show _ = .bool _ from rfl) ?_
    exact ⟨rfl, rfl, rfl⟩
  · skip
    have hT2 : ∀ o, Tabs (Rd m o) := fun o => hT.mono fun b x h => .inl h
    have hc2 : ∀ o, RepC (Rd m o) 8 (.agg #[.slice a l k]) c := fun o => hc8.mono fun b x h => .inl h
    refine WK.skip ?_
    refine WK.seq ?_
    refine WK.region ?_
    refine WL.loadAO rfl rfl (by first | exact .here | exact .there .here | exact .there (.there .here) | exact .there (.there (.there .here)) | exact .there (.there (.there (.there .here))) | exact .there (.there (.there (.there (.there .here))))) (by rfl) ?_
    refine WL.call (vprint_tr hT hc8) rfl rfl rfl .none ?_
    rintro u m2 back hle ⟨hm2, hbk, hu⟩; subst m2; subst hu; subst hbk
    refine WL.mvT rfl rfl ?_
    refine WL.extract rfl rfl rfl ?_
    refine WL.extract rfl rfl rfl ?_
    refine WL.asS rfl rfl ?_
    refine WL.asI rfl rfl ?_
    refine WL.nil ?_
    refine WK.seq ?_
    refine WK.region ?_
    refine WL.loadAO rfl rfl (by first | exact .here | exact .there .here | exact .there (.there .here) | exact .there (.there (.there .here)) | exact .there (.there (.there (.there .here))) | exact .there (.there (.there (.there (.there .here))))) (by rfl) ?_
    refine WL.call (rprintC_tr hc8) rfl rfl rfl .none ?_
    rintro u m2 back hle ⟨hm2, hbk, hu⟩; subst m2; subst hu; subst hbk
    refine WL.mvT rfl rfl ?_
    refine WL.extract rfl rfl rfl ?_
    refine WL.extract rfl rfl rfl ?_
    refine WL.asS rfl rfl ?_
    refine WL.asI rfl rfl ?_
    refine WL.nil ?_
    refine WK.seq ?_
    -- draw
    refine WK.drawn 22 #[[], [], [0, 1], [0, 1, 2], [0, 1, 2, 3], [0, 1, 2, 3], [0, 1, 2, 3, 4, 5], [0, 1, 2, 3, 4, 5, 6], [0, 1, 2, 3, 4, 5, 6, 7], [0, 1, 2, 3, 4, 5, 6, 7, 8], [0, 1, 2, 3, 4, 5, 6, 7, 8, 9], [0, 1, 2, 3, 4, 5, 6, 7, 8], [0, 1, 2, 3, 4, 5, 6, 7, 8, 9, 10, 11], [0, 1, 2, 3, 4, 5, 6, 7, 8, 9, 10, 11, 12], [0, 1, 2, 3, 4, 5, 6, 7, 8, 9, 10, 11, 12, 13], [0, 1, 2, 3, 4, 5, 6, 7, 8, 9, 10, 11, 12, 13, 14], [0, 1, 2, 3, 4, 5, 6, 7, 8, 9, 10, 11, 12, 13, 14, 15], [0, 1, 2, 3, 4, 5, 6, 7, 8, 9, 10, 11, 12, 13, 14], [0, 1, 2, 3, 4, 5, 6, 7, 8, 9, 10, 11, 12, 13, 14, 15, 16, 17], [0, 1, 2, 3, 4, 5, 6, 7, 8, 9, 10, 11, 12, 13, 14, 15, 16, 17, 18], [0, 1, 2, 3, 4, 5, 6, 7, 8, 9, 10, 11, 12, 13, 14, 15, 16, 17, 18, 19], [0, 1, 2, 3, 4, 5, 6, 7, 8, 9, 10, 11, 12, 13, 14, 15, 16, 17, 18, 19, 20]] mixed_ok (by kernel_rfl) ?_
    refine WR.cons rfl rfl (fun K h => WL.mvS rfl rfl h) ?_
    refine WR.cons rfl rfl (fun K h => WL.mvS rfl rfl h) ?_
    refine WR.cons rfl rfl (fun K h => WL.eqlS rfl rfl rfl h) ?_
    refine WR.cons rfl rfl (fun K h => WL.mvB rfl rfl h) ?_
    refine WR.cons rfl rfl (fun K h => WL.guard rfl (decide_eq_true rfl) (WL.mvI rfl rfl h)) ?_
    refine WR.cons rfl rfl (fun K h => WL.guard rfl (decide_eq_true rfl) (WL.mvI rfl rfl h)) ?_
    refine WR.cons rfl rfl (fun K h => WL.guard rfl (decide_eq_true rfl) (WL.eql rfl rfl rfl h)) ?_
    refine WR.cons rfl rfl (fun K h => WL.pickT rfl rfl (decide_eq_true rfl) rfl h) ?_
    refine WR.cons rfl rfl (fun K h => WL.mvB rfl rfl h) ?_
    refine WR.cons rfl rfl (fun K h => WL.guard rfl (decide_eq_true rfl) (WL.loadAO rfl rfl (by first | exact .here | exact .there .here | exact .there (.there .here) | exact .there (.there (.there .here)) | exact .there (.there (.there (.there .here))) | exact .there (.there (.there (.there (.there .here))))) (by rfl) h)) ?_
    refine WR.cons rfl rfl (fun K h => WL.guard rfl (decide_eq_true rfl) (WL.callm (vcheckC_pm (hT2 _) (hc2 _)) rfl rfl rfl h)) ?_
    refine WR.cons rfl rfl (fun K h => WL.guard rfl (decide_eq_true rfl) (WL.mvI rfl rfl h)) ?_
    refine WR.cons rfl rfl (fun K h => WL.guard rfl (decide_eq_true rfl) (WL.eql rfl rfl rfl h)) ?_
    refine WR.cons rfl rfl (fun K h => WL.pickT rfl rfl (decide_eq_true rfl) rfl h) ?_
    refine WR.cons rfl rfl (fun K h => WL.mvB rfl rfl h) ?_
    refine WR.cons rfl rfl (fun K h => WL.guard rfl (decide_eq_true rfl) (WL.loadAO rfl rfl (by first | exact .here | exact .there .here | exact .there (.there .here) | exact .there (.there (.there .here)) | exact .there (.there (.there (.there .here))) | exact .there (.there (.there (.there (.there .here))))) (by rfl) h)) ?_
    refine WR.cons rfl rfl (fun K h => WL.guard rfl (decide_eq_true rfl) (WL.callm (Deep_pm (hc2 _)) rfl rfl rfl h)) ?_
    refine WR.cons rfl rfl (fun K h => WL.guard rfl (decide_eq_true rfl) (WL.loadAO rfl rfl (by first | exact .here | exact .there .here | exact .there (.there .here) | exact .there (.there (.there .here)) | exact .there (.there (.there (.there .here))) | exact .there (.there (.there (.there (.there .here))))) (by rfl) h)) ?_
    refine WR.cons rfl rfl (fun K h => WL.guard rfl (decide_eq_true rfl) (WL.callm (rDeep_pm (hc2 _)) rfl rfl rfl h)) ?_
    refine WR.cons rfl rfl (fun K h => WL.guard rfl (decide_eq_true rfl) (WL.eql rfl rfl rfl h)) ?_
    refine WR.cons rfl rfl (fun K h => WL.pickT rfl rfl (decide_eq_true rfl) rfl h) ?_
    refine WR.cons rfl rfl (fun K h => WL.asB rfl rfl h) ?_
    refine WR.nil ?_
    refine WL.nil ?_
    refine WK.ret ?_
    -- end
    refine WK.drop (.drop .refl) ?_
    refine WK.end1 rfl (show _ = .bool _ from rfl) ?_
    exact ⟨rfl, rfl, congrArg Value.bool (decide_eq_true rfl)⟩
end Go.SL
