/- What is wrong with a property of a card: the program's function: contract. -/
import Derived.Test.YtbigjpjmdkgjmaaDoorWei
namespace Go.SL
open Go Go.Proofs
set_option linter.unusedVariables false
set_option linter.unusedSimpArgs false

theorem great_tr {m : Imm} {v : Value} {c : Crd} (hc : RepC (fun b o => m b = some o) 12 v c) :
    Tr Tryd.prog 4 [v] m [] fun u m' own' => m' = m ∧ own' = [] ∧ ∃ b, u = .bool b := by
  obtain ⟨a, l, k, rfl⟩ := hc.slice
  refine Tr.of Tryd.func4 Tryd.ntmps4 rfl rfl fun w => ?_
  refine WK.seq ?_
  refine WK.region ?_
  refine WL.box rfl rfl fun b1 => ?_
  refine WL.asC rfl ?_
  refine WL.nil ?_
  refine WK.seq ?_
  refine WK.region ?_
  refine WL.loadAO rfl rfl (by first | exact .here | exact .there .here | exact .there (.there .here) | exact .there (.there (.there .here)) | exact .there (.there (.there (.there .here))) | exact .there (.there (.there (.there (.there .here))))) (by rfl) ?_
  refine WL.call (weigh_tr 12 (by omega) hc (by omega) (by omega)) rfl rfl rfl .none ?_
  rintro u m1 back hle ⟨hm1', hb1, r1, g1, hu1, hr3, hr4⟩; subst m1; subst hb1; subst hu1
  refine WL.mvT rfl rfl ?_
  refine WL.extract rfl rfl rfl ?_
  refine WL.extract rfl rfl rfl ?_
  refine WL.asI rfl rfl ?_
  refine WL.asB rfl rfl ?_
  refine WL.nil ?_
  refine WK.seq ?_
  refine WK.region ?_
  refine WL.mvB rfl rfl ?_
  refine WL.asB rfl rfl ?_
  refine WL.nil ?_
  refine WK.ret ?_
  -- end
  refine WK.drop (.drop .refl) ?_
  refine WK.end1 rfl (show _ = .bool _ from rfl) ?_
  exact ⟨rfl, rfl, _, rfl⟩

def agentN : List UInt8 := [65, 71, 69, 78, 84]
/-- What is wrong with a property of a card, but for its cards' own (10.1). -/
def chkOne (h : Hd) (al : Nat) : Int :=
  if !decide (chkProp h.g h.n h.ps [] 0 = 0) then chkProp h.g h.n h.ps [] 0 else if decide ((4 : Int) < h.ps.length) then 4 else if h.ps.any oddB then 3 else if frameB h.n then 14 else if decide ((600 : Int) < h.v.length) then 8
  else if decide (h.n = agentN) && (!decide ((al : Int) = 1) || !decide (h.v = [])) then 5 else if !decide (h.n = agentN) && decide ((0 : Int) < al) then 5 else 0
theorem propV_one (g n : List UInt8) (a1 : Option Addr) (l1 c1 : Nat) (v : List UInt8) (a2 : Option Addr) (l2 c2 : Nat) : ∀ c ∈ (propV g n (.slice a1 l1 c1) v (.slice a2 l2 c2)).cells.toList, c.oneCell' = true := by
  intro c hc
  simp [propV, Value.cells] at hc
  rcases hc with rfl | rfl | rfl | rfl | rfl <;> rfl
theorem containsOdd {R : Nat → Obj → Prop} {v : Value} {l : List Par} (hs : Sl R 2 v (l.map parV)) (hb : ∀ p ∈ l, p.1.length ≤ 1000000000 ∧ p.2.length ≤ 1000000000) (hlen : l.length ≤ 1000000000) :
    Pm Tryd.prog 33 [v, .func (.func 34) #[] #[]] R (.bool (l.any oddB)) :=
  containsFuncP hs oddB _ #[] (fun p hp => odd_pu p (hb p hp).1 (hb p hp).2) hlen
theorem vcheck_pm {R : Nat → Obj → Prop} {sp : Value} {h : Hd} (hok : HdOk h) (hs : Sl R 2 sp (h.ps.map parV)) (aa : Option Addr) (al ac : Nat) :
    Pm Tryd.prog 18 [propV h.g h.n sp h.v (.slice aa al ac)] R (.int .i64 (chkOne h al)) := by
  obtain ⟨hg, hn, hv, hps, hb⟩ := hok
  replace hg : h.g.length ≤ 1048576 := hg
  replace hn : h.n.length ≤ 1048576 := hn
  replace hv : h.v.length ≤ 1048576 := hv
  replace hps : h.ps.length ≤ 1048576 := hps
  have hb' : ∀ p ∈ h.ps, p.1.length ≤ 1000000000 ∧ p.2.length ≤ 1000000000 := fun p hp => ⟨Nat.le_trans (hb p hp).1 (by decide), Nat.le_trans (hb p hp).2 (by decide)⟩
  obtain ⟨a, c, hpv, _⟩ := hs.shape
  rw [List.length_map] at hpv
  subst hpv
  refine Pm.of Tryd.func18 Tryd.ntmps18 rfl rfl fun m w hR => ?_
  have hs' : Sl (fun b o => m b = some o) 2 _ _ := hs.mono hR
  refine WK.seq ?_
  refine WK.region ?_
  refine WL.box rfl rfl fun b1 => ?_
  refine WL.asC rfl ?_
  refine WL.nil ?_
  refine WK.seq ?_
  refine WK.region ?_
  refine WL.loadAO rfl rfl (by first | exact .here | exact .there .here | exact .there (.there .here) | exact .there (.there (.there .here)) | exact .there (.there (.there (.there .here))) | exact .there (.there (.there (.there (.there .here))))) (by rfl) ?_
  refine WL.alloc rfl fun b3 => ?_
  refine WL.storeAO rfl rfl rfl (by first | exact .here | exact .there .here | exact .there (.there .here) | exact .there (.there (.there .here)) | exact .there (.there (.there (.there .here))) | exact .there (.there (.there (.there (.there .here))))) (by rfl) (by rfl) (propV_one h.g h.n _ _ _ h.v _ _ _) ?_
  refine WL.nil ?_
  refine WK.seq ?_
  refine WK.region ?_
  refine WL.fieldO rfl rfl ?_
  refine WL.store1O rfl (show _ = (str _) from rfl) rfl (by first | exact .here | exact .there .here | exact .there (.there .here) | exact .there (.there (.there .here)) | exact .there (.there (.there (.there .here))) | exact .there (.there (.there (.there (.there .here))))) rfl ?_
  refine WL.fieldO rfl rfl ?_
  refine WL.store1O rfl (show _ = (.slice _ _ _) from rfl) rfl (by first | exact .here | exact .there .here | exact .there (.there .here) | exact .there (.there (.there .here)) | exact .there (.there (.there (.there .here))) | exact .there (.there (.there (.there (.there .here))))) rfl ?_
  refine WL.nil ?_
  refine WK.seq ?_
  refine WK.seq ?_
  refine WK.region ?_
  refine WL.loadAO rfl rfl (by first | exact .here | exact .there .here | exact .there (.there .here) | exact .there (.there (.there .here)) | exact .there (.there (.there (.there .here))) | exact .there (.there (.there (.there (.there .here))))) (by rfl) ?_
  refine WL.callm (pcheck_pm (hs'.rd (Le.refl _)) h.g h.n [] none 0 0 (by omega) (by omega) (by simp) hb' (by simp) (by omega)) rfl rfl rfl ?_
  refine WL.asI rfl rfl ?_
  refine WL.nil ?_
  refine WK.seq ?_
  refine WK.region ?_
  refine WL.mvI rfl rfl ?_
  refine WL.neq rfl rfl rfl ?_
  refine WL.nil ?_
  -- cond
  refine WK.cond rfl (fun e1 => ?_) (fun e1 => ?_)
  · refine WK.seq ?_
    refine WK.region ?_
    refine WL.mvI rfl rfl ?_
    refine WL.asI rfl rfl ?_
    refine WL.nil ?_
    refine WK.ret ?_
    refine WK.ret_code ?_
    -- end
    refine WK.end1 rfl (show _ = .int _ _ from rfl) ?_
    rw [chkOne, if_pos e1]
  · skip
    refine WK.skip ?_
    refine WK.seq ?_
    refine WK.block ?_
    refine WK.seq ?_
    refine WK.region ?_
    refine WL.fieldO rfl rfl ?_
    refine WL.load1O rfl rfl (by first | exact .here | exact .there .here | exact .there (.there .here) | exact .there (.there (.there .here)) | exact .there (.there (.there (.there .here))) | exact .there (.there (.there (.there (.there .here))))) (show _ = some (.slice _ _ _) from rfl) ?_
    refine WL.lenSl rfl rfl ?_
    refine WL.gtr rfl rfl rfl ?_
    refine WL.asB rfl rfl ?_
    refine WL.nil ?_
    refine WK.cond rfl (fun h1 => ?_) (fun h1 => ?_)
    · skip
      refine WK.seq ?_
      refine WK.region ?_
      refine WL.asC rfl ?_
      refine WL.nil ?_
      refine WK.ret ?_
      refine WK.ret_blk ?_
      refine WK.ret_code ?_
      refine WK.end1 rfl (show _ = .int _ _ from rfl) ?_
      first | (simp only [chkOne, agentN, *, Bool.not_true, Bool.not_false, Bool.false_eq_true, Bool.true_and, Bool.false_and, Bool.true_or, Bool.false_or, if_true, if_false]; done) | (simp only [chkOne, agentN, e1, h1, h2, h3, h4, Bool.false_eq_true, if_false]; simp_all; done) | (simp only [chkOne, agentN, e1, h1, h2, h3, h4, Bool.false_eq_true, if_false]; simp_all <;> omega)
    · skip
      refine WK.seq ?_
      refine WK.region ?_
      refine WL.fieldO rfl rfl ?_
      refine WL.load1O rfl rfl (by first | exact .here | exact .there .here | exact .there (.there .here) | exact .there (.there (.there .here)) | exact .there (.there (.there (.there .here))) | exact .there (.there (.there (.there (.there .here))))) (show _ = some (.slice _ _ _) from rfl) ?_
      refine WL.callm (containsOdd (hs'.rd (Le.refl _)) hb' (by omega)) rfl rfl rfl ?_
      refine WL.asB rfl rfl ?_
      refine WL.nil ?_
      refine WK.cond rfl (fun h2 => ?_) (fun h2 => ?_)
      · skip
        refine WK.seq ?_
        refine WK.region ?_
        refine WL.asC rfl ?_
        refine WL.nil ?_
        refine WK.ret ?_
        refine WK.ret_blk ?_
        refine WK.ret_code ?_
        refine WK.end1 rfl (show _ = .int _ _ from rfl) ?_
        first | (simp only [chkOne, agentN, *, Bool.not_true, Bool.not_false, Bool.false_eq_true, Bool.true_and, Bool.false_and, Bool.true_or, Bool.false_or, if_true, if_false]; done) | (simp only [chkOne, agentN, e1, h1, h2, h3, h4, Bool.false_eq_true, if_false]; simp_all; done) | (simp only [chkOne, agentN, e1, h1, h2, h3, h4, Bool.false_eq_true, if_false]; simp_all <;> omega)
      · skip
        refine WK.seq ?_
        refine WK.region ?_
        refine WL.fieldO rfl rfl ?_
        refine WL.load1O rfl rfl (by first | exact .here | exact .there .here | exact .there (.there .here) | exact .there (.there (.there .here)) | exact .there (.there (.there (.there .here))) | exact .there (.there (.there (.there (.there .here))))) (show _ = some (str _) from rfl) ?_
        refine WL.callp (framed_pu _) rfl rfl rfl ?_
        refine WL.asB rfl rfl ?_
        refine WL.nil ?_
        refine WK.cond rfl (fun h3 => ?_) (fun h3 => ?_)
        · skip
          refine WK.seq ?_
          refine WK.region ?_
          refine WL.asC rfl ?_
          refine WL.nil ?_
          refine WK.ret ?_
          refine WK.ret_blk ?_
          refine WK.ret_code ?_
          refine WK.end1 rfl (show _ = .int _ _ from rfl) ?_
          first | (simp only [chkOne, agentN, *, Bool.not_true, Bool.not_false, Bool.false_eq_true, Bool.true_and, Bool.false_and, Bool.true_or, Bool.false_or, if_true, if_false]; done) | (simp only [chkOne, agentN, e1, h1, h2, h3, h4, Bool.false_eq_true, if_false]; simp_all; done) | (simp only [chkOne, agentN, e1, h1, h2, h3, h4, Bool.false_eq_true, if_false]; simp_all <;> omega)
        · skip
          refine WK.seq ?_
          refine WK.region ?_
          refine WL.fieldO rfl rfl ?_
          refine WL.load1O rfl rfl (by first | exact .here | exact .there .here | exact .there (.there .here) | exact .there (.there (.there .here)) | exact .there (.there (.there (.there .here))) | exact .there (.there (.there (.there (.there .here))))) (show _ = some (str _) from rfl) ?_
          refine WL.lenS rfl rfl ?_
          refine WL.gtr rfl rfl rfl ?_
          refine WL.asB rfl rfl ?_
          refine WL.nil ?_
          refine WK.cond rfl (fun h4 => ?_) (fun h4 => ?_)
          · skip
            refine WK.seq ?_
            refine WK.region ?_
            refine WL.asC rfl ?_
            refine WL.nil ?_
            refine WK.ret ?_
            refine WK.ret_blk ?_
            refine WK.ret_code ?_
            refine WK.end1 rfl (show _ = .int _ _ from rfl) ?_
            first | (simp only [chkOne, agentN, *, Bool.not_true, Bool.not_false, Bool.false_eq_true, Bool.true_and, Bool.false_and, Bool.true_or, Bool.false_or, if_true, if_false]; done) | (simp only [chkOne, agentN, e1, h1, h2, h3, h4, Bool.false_eq_true, if_false]; simp_all; done) | (simp only [chkOne, agentN, e1, h1, h2, h3, h4, Bool.false_eq_true, if_false]; simp_all <;> omega)
          · skip
            refine WK.seq ?_
            refine WK.seq ?_
            refine WK.region ?_
            refine WL.fieldO rfl rfl ?_
            refine WL.load1O rfl rfl (by first | exact .here | exact .there .here | exact .there (.there .here) | exact .there (.there (.there .here)) | exact .there (.there (.there (.there .here))) | exact .there (.there (.there (.there (.there .here))))) (show _ = some (str _) from rfl) ?_
            refine WL.eqlS rfl rfl rfl ?_
            refine WL.mvB rfl rfl ?_
            refine WL.guardSplit rfl rfl (fun h5 => ?_) (fun h5 => ?_)
            · skip
              refine WL.fieldO rfl rfl ?_
              refine WL.guard rfl h5 ?_
              refine WL.load1O rfl rfl (by first | exact .here | exact .there .here | exact .there (.there .here) | exact .there (.there (.there .here)) | exact .there (.there (.there (.there .here))) | exact .there (.there (.there (.there (.there .here))))) (show _ = some (.slice _ _ _) from rfl) ?_
              refine WL.guard rfl h5 ?_
              refine WL.lenSl rfl rfl ?_
              refine WL.guard rfl h5 ?_
              refine WL.neq rfl rfl rfl ?_
              refine WL.guard rfl h5 ?_
              refine WL.mvB rfl rfl ?_
              refine WL.guardSplit rfl rfl (fun h6 => ?_) (fun h6 => ?_)
              · skip
                refine WL.fieldO rfl rfl ?_
                refine WL.guard rfl h6 ?_
                refine WL.load1O rfl rfl (by first | exact .here | exact .there .here | exact .there (.there .here) | exact .there (.there (.there .here)) | exact .there (.there (.there (.there .here))) | exact .there (.there (.there (.there (.there .here))))) (show _ = some (str _) from rfl) ?_
                refine WL.guard rfl h6 ?_
                refine WL.neqS rfl rfl rfl ?_
                refine WL.guard rfl h5 ?_
                refine WL.pickF rfl rfl h6 rfl ?_
                refine WL.pickT rfl rfl h5 rfl ?_
                refine WL.asB rfl rfl ?_
                refine WL.nil ?_
                refine WK.cond rfl (fun h7 => ?_) (fun h7 => ?_)
                · skip
                  refine WK.skip ?_
                  refine WK.cond_t (congrArg Value.bool h7) ?_
                  refine WK.seq ?_
                  refine WK.region ?_
                  refine WL.asC rfl ?_
                  refine WL.nil ?_
                  refine WK.ret ?_
                  refine WK.ret_blk ?_
                  refine WK.ret_code ?_
                  refine WK.end1 rfl (show _ = .int _ _ from rfl) ?_
                  first | (simp only [chkOne, agentN, *, Bool.not_true, Bool.not_false, Bool.false_eq_true, Bool.true_and, Bool.false_and, Bool.true_or, Bool.false_or, if_true, if_false]; done) | (simp only [chkOne, agentN, e1, h1, h2, h3, h4, Bool.false_eq_true, if_false]; simp_all; done) | (simp only [chkOne, agentN, e1, h1, h2, h3, h4, Bool.false_eq_true, if_false]; simp_all <;> omega)
                · skip
                  refine WK.region ?_
                  refine WL.fieldO rfl rfl ?_
                  refine WL.load1O rfl rfl (by first | exact .here | exact .there .here | exact .there (.there .here) | exact .there (.there (.there .here)) | exact .there (.there (.there (.there .here))) | exact .there (.there (.there (.there (.there .here))))) (show _ = some (str _) from rfl) ?_
                  refine WL.neqS rfl rfl rfl ?_
                  refine WL.mvB rfl rfl ?_
                  refine WL.guardSplit rfl rfl (fun h8 => ?_) (fun h8 => ?_)
                  · skip
                    refine WL.fieldO rfl rfl ?_
                    refine WL.guard rfl h8 ?_
                    refine WL.load1O rfl rfl (by first | exact .here | exact .there .here | exact .there (.there .here) | exact .there (.there (.there .here)) | exact .there (.there (.there (.there .here))) | exact .there (.there (.there (.there (.there .here))))) (show _ = some (.slice _ _ _) from rfl) ?_
                    refine WL.guard rfl h8 ?_
                    refine WL.lenSl rfl rfl ?_
                    refine WL.guard rfl h8 ?_
                    refine WL.gtr rfl rfl rfl ?_
                    refine WL.pickT rfl rfl h8 rfl ?_
                    refine WL.asB rfl rfl ?_
                    refine WL.nil ?_
                    refine WK.cond rfl (fun h9 => ?_) (fun h9 => ?_)
                    · skip
                      refine WK.seq ?_
                      refine WK.region ?_
                      refine WL.asC rfl ?_
                      refine WL.nil ?_
                      refine WK.ret ?_
                      refine WK.ret_blk ?_
                      refine WK.ret_code ?_
                      refine WK.end1 rfl (show _ = .int _ _ from rfl) ?_
                      first | (simp only [chkOne, agentN, *, Bool.not_true, Bool.not_false, Bool.false_eq_true, Bool.true_and, Bool.false_and, Bool.true_or, Bool.false_or, if_true, if_false]; done) | (simp only [chkOne, agentN, e1, h1, h2, h3, h4, Bool.false_eq_true, if_false]; simp_all; done) | (simp only [chkOne, agentN, e1, h1, h2, h3, h4, Bool.false_eq_true, if_false]; simp_all <;> omega)
                    · skip
                      refine WK.skip ?_
                      refine WK.blk ?_
                      refine WK.seq ?_
                      refine WK.region ?_
                      refine WL.asC rfl ?_
                      refine WL.nil ?_
                      refine WK.ret ?_
                      refine WK.end1 rfl (show _ = .int _ _ from rfl) ?_
                      first | (simp only [chkOne, agentN, *, Bool.not_true, Bool.not_false, Bool.false_eq_true, Bool.true_and, Bool.false_and, Bool.true_or, Bool.false_or, if_true, if_false]; done) | (simp only [chkOne, agentN, e1, h1, h2, h3, h4, Bool.false_eq_true, if_false]; simp_all; done) | (simp only [chkOne, agentN, e1, h1, h2, h3, h4, Bool.false_eq_true, if_false]; simp_all <;> omega)
                  · skip
                    refine WL.guardSkip rfl h8 rfl ?_
                    refine WL.guardSkip rfl h8 rfl ?_
                    refine WL.guardSkip rfl h8 rfl ?_
                    refine WL.pickF rfl rfl h8 rfl ?_
                    refine WL.asB rfl rfl ?_
                    refine WL.nil ?_
                    refine WK.cond_f rfl ?_
                    refine WK.skip ?_
                    refine WK.blk ?_
                    refine WK.seq ?_
                    refine WK.region ?_
                    refine WL.asC rfl ?_
                    refine WL.nil ?_
                    refine WK.ret ?_
                    refine WK.end1 rfl (show _ = .int _ _ from rfl) ?_
                    first | (simp only [chkOne, agentN, *, Bool.not_true, Bool.not_false, Bool.false_eq_true, Bool.true_and, Bool.false_and, Bool.true_or, Bool.false_or, if_true, if_false]; done) | (simp only [chkOne, agentN, e1, h1, h2, h3, h4, Bool.false_eq_true, if_false]; simp_all; done) | (simp only [chkOne, agentN, e1, h1, h2, h3, h4, Bool.false_eq_true, if_false]; simp_all <;> omega)
              · skip
                refine WL.guardSkip rfl h6 rfl ?_
                refine WL.guardSkip rfl h6 rfl ?_
                refine WL.guard rfl h5 ?_
                refine WL.pickT rfl rfl h6 rfl ?_
                refine WL.pickT rfl rfl h5 rfl ?_
                refine WL.asB rfl rfl ?_
                refine WL.nil ?_
                refine WK.cond_t rfl ?_
                refine WK.skip ?_
                refine WK.cond_t rfl ?_
                refine WK.seq ?_
                refine WK.region ?_
                refine WL.asC rfl ?_
                refine WL.nil ?_
                refine WK.ret ?_
                refine WK.ret_blk ?_
                refine WK.ret_code ?_
                refine WK.end1 rfl (show _ = .int _ _ from rfl) ?_
                first | (simp only [chkOne, agentN, *, Bool.not_true, Bool.not_false, Bool.false_eq_true, Bool.true_and, Bool.false_and, Bool.true_or, Bool.false_or, if_true, if_false]; done) | (simp only [chkOne, agentN, e1, h1, h2, h3, h4, Bool.false_eq_true, if_false]; simp_all; done) | (simp only [chkOne, agentN, e1, h1, h2, h3, h4, Bool.false_eq_true, if_false]; simp_all <;> omega)
            · skip
              refine WL.guardSkip rfl h5 rfl ?_
              refine WL.guardSkip rfl h5 rfl ?_
              refine WL.guardSkip rfl h5 rfl ?_
              refine WL.guardSkip rfl h5 rfl ?_
              refine WL.guardNone rfl rfl ?_
              refine WL.guardNone rfl rfl ?_
              refine WL.guardNone rfl rfl ?_
              refine WL.guardSkip rfl h5 rfl ?_
              refine WL.pickF rfl rfl h5 rfl ?_
              refine WL.asB rfl rfl ?_
              refine WL.nil ?_
              refine WK.cond_f rfl ?_
              refine WK.region ?_
              refine WL.fieldO rfl rfl ?_
              refine WL.load1O rfl rfl (by first | exact .here | exact .there .here | exact .there (.there .here) | exact .there (.there (.there .here)) | exact .there (.there (.there (.there .here))) | exact .there (.there (.there (.there (.there .here))))) (show _ = some (str _) from rfl) ?_
              refine WL.neqS rfl rfl rfl ?_
              refine WL.mvB rfl rfl ?_
              refine WL.guardSplit rfl rfl (fun h6 => ?_) (fun h6 => ?_)
              · skip
                refine WL.fieldO rfl rfl ?_
                refine WL.guard rfl h6 ?_
                refine WL.load1O rfl rfl (by first | exact .here | exact .there .here | exact .there (.there .here) | exact .there (.there (.there .here)) | exact .there (.there (.there (.there .here))) | exact .there (.there (.there (.there (.there .here))))) (show _ = some (.slice _ _ _) from rfl) ?_
                refine WL.guard rfl h6 ?_
                refine WL.lenSl rfl rfl ?_
                refine WL.guard rfl h6 ?_
                refine WL.gtr rfl rfl rfl ?_
                refine WL.pickT rfl rfl h6 rfl ?_
                refine WL.asB rfl rfl ?_
                refine WL.nil ?_
                refine WK.cond rfl (fun h7 => ?_) (fun h7 => ?_)
                · skip
                  refine WK.seq ?_
                  refine WK.region ?_
                  refine WL.asC rfl ?_
                  refine WL.nil ?_
                  refine WK.ret ?_
                  refine WK.ret_blk ?_
                  refine WK.ret_code ?_
                  refine WK.end1 rfl (show _ = .int _ _ from rfl) ?_
                  first | (simp only [chkOne, agentN, *, Bool.not_true, Bool.not_false, Bool.false_eq_true, Bool.true_and, Bool.false_and, Bool.true_or, Bool.false_or, if_true, if_false]; done) | (simp only [chkOne, agentN, e1, h1, h2, h3, h4, Bool.false_eq_true, if_false]; simp_all; done) | (simp only [chkOne, agentN, e1, h1, h2, h3, h4, Bool.false_eq_true, if_false]; simp_all <;> omega)
                · skip
                  refine WK.skip ?_
                  refine WK.blk ?_
                  refine WK.seq ?_
                  refine WK.region ?_
                  refine WL.asC rfl ?_
                  refine WL.nil ?_
                  refine WK.ret ?_
                  refine WK.end1 rfl (show _ = .int _ _ from rfl) ?_
                  first | (simp only [chkOne, agentN, *, Bool.not_true, Bool.not_false, Bool.false_eq_true, Bool.true_and, Bool.false_and, Bool.true_or, Bool.false_or, if_true, if_false]; done) | (simp only [chkOne, agentN, e1, h1, h2, h3, h4, Bool.false_eq_true, if_false]; simp_all; done) | (simp only [chkOne, agentN, e1, h1, h2, h3, h4, Bool.false_eq_true, if_false]; simp_all <;> omega)
              · skip
                refine WL.guardSkip rfl h6 rfl ?_
                refine WL.guardSkip rfl h6 rfl ?_
                refine WL.guardSkip rfl h6 rfl ?_
                refine WL.pickF rfl rfl h6 rfl ?_
                refine WL.asB rfl rfl ?_
                refine WL.nil ?_
                refine WK.cond_f rfl ?_
                refine WK.skip ?_
                refine WK.blk ?_
                refine WK.seq ?_
                refine WK.region ?_
                refine WL.asC rfl ?_
                refine WL.nil ?_
                refine WK.ret ?_
                refine WK.end1 rfl (show _ = .int _ _ from rfl) ?_
                first | (simp only [chkOne, agentN, *, Bool.not_true, Bool.not_false, Bool.false_eq_true, Bool.true_and, Bool.false_and, Bool.true_or, Bool.false_or, if_true, if_false]; done) | (simp only [chkOne, agentN, e1, h1, h2, h3, h4, Bool.false_eq_true, if_false]; simp_all; done) | (simp only [chkOne, agentN, e1, h1, h2, h3, h4, Bool.false_eq_true, if_false]; simp_all <;> omega)
end Go.SL
