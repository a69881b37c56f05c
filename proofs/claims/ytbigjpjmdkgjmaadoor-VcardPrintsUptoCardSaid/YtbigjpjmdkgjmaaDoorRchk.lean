/- What is wrong with a card: the reference's function: contract. -/
import Derived.Test.YtbigjpjmdkgjmaaDoorChk
namespace Go.SL
open Go Go.Proofs
set_option linter.unusedVariables false
set_option linter.unusedSimpArgs false

section
variable {P : Program} {E : Env} {n : Nat} {ds : List Deferred} {m : Imm} {own own' : Own} {ρ : Nat → Value} {ks : List Kt} {ops : Array Oper} {rest : List Oper} {d : Nat} {ty tx tz : TypeId} {pos : String} {af : Array Edge} {x y : Operand}
theorem WL.neqB {a b : Bool} [hU : Und P tx .bool] (hd : Nat.blt d n = true) (hx : ev ρ x = .bool a) (hy : ev ρ y = .bool b) (h : WL P E n ds m own (upd ρ d (.bool (a != b))) ops rest ks) :
    WL P E n ds m own ρ ops (⟨some d, .binOp .neq tx x y tz, ty, pos, af, none⟩ :: rest) ks := by
  refine WL.pure hd (by simp) (fun w => ?_) h
  have h1 : ∀ d : Nat, (Op.equalIn (d + 1) tx (.bool a) (.bool b)).run P w = .ok (a == b) w := fun d => by
    simp [Op.equalIn, run_underlying hU.ok, Sem.run_bind, Result.andThen]
  simp [execOp, hx, hy, binOp, eqGuard, Op.equal, Op.maxDepth, h1 9999, Result.andThen]
  cases a <;> cases b <;> rfl
end
def agE (f : Crd → Int) : List Crd → Int
  | [] => 0
  | a :: _ => f a
def chkPs (f : Crd → Int) : List (Hd × List Crd) → Int
  | [] => 0
  | p :: l => if !decide (chkOne p.1 p.2.length = 0) then chkOne p.1 p.2.length else if !decide (agE f p.2 = 0) then agE f p.2 else chkPs f l
def chkC : Nat → Crd → Int
  | 0, _ => 0
  | d + 1, c => if decide ((24 : Int) < c.props.length) then 4 else chkPs (chkC d) c.props
/-- No more than d cards within one another. -/
def Deepest : Nat → Crd → Prop
  | 0, _ => False
  | d + 1, c => ∀ p ∈ c.props, ∀ a ∈ p.2, Deepest d a
def kindB (n v : List UInt8) (al : Nat) : Bool := decide ((1 : Int) < al) || (decide (n = agentN) != decide ((al : Int) = 1)) || (decide ((al : Int) = 1) && !decide (v = []))
theorem kind_eq (n v : List UInt8) (al : Nat) : kindB n v al = (decide (n = agentN) && (!decide ((al : Int) = 1) || !decide (v = [])) || !decide (n = agentN) && decide ((0 : Int) < al)) := by
  unfold kindB
  rcases (show al = 0 ∨ al = 1 ∨ 1 < al by omega) with rfl | rfl | h
  · cases decide (n = agentN) <;> cases decide (v = []) <;> rfl
  · cases decide (n = agentN) <;> cases decide (v = []) <;> rfl
  · have a1 : decide ((1 : Int) < al) = true := by simp; omega
    have a2 : decide ((al : Int) = 1) = false := by simp; omega
    have a3 : decide ((0 : Int) < al) = true := by simp; omega
    rw [a1, a2, a3]
    cases decide (n = agentN) <;> cases decide (v = []) <;> rfl
theorem chkOne_kind {h : Hd} {al : Nat} (e1 : (!decide (chkProp h.g h.n h.ps [] 0 = 0)) = false) (e2 : decide ((4 : Int) < h.ps.length) = false) (e3 : h.ps.any oddB = false) (e4 : frameB h.n = false) (e5 : decide ((600 : Int) < h.v.length) = false) :
    chkOne h al = if kindB h.n h.v al then 5 else 0 := by
  rw [kind_eq]
  simp only [chkOne, e1, e2, e3, e4, e5, Bool.false_eq_true, if_false]
  cases decide (h.n = agentN) && (!decide ((al : Int) = 1) || !decide (h.v = [])) <;> cases !decide (h.n = agentN) && decide ((0 : Int) < al) <;> rfl
theorem rcheckC_pm : ∀ (d : Nat) {R : Nat → Obj → Prop} {v : Value} {c : Crd}, RepC R d v c → Deepest d c → Pm Tryd.prog 24 [v] R (.int .i64 (chkC d c))
  | 0, _, _, _, _, hd => hd.elim
  | d + 1, R, v, c, hc, hd => by
    obtain ⟨pv, vs, rfl, hs, hlen, hbig, hel⟩ := hc
    obtain ⟨a, k, hpv, _⟩ := hs.shape
    subst hpv
    replace hbig : c.props.length ≤ 1048576 := hbig
    refine Pm.of Tryd.func24 Tryd.ntmps24 rfl rfl fun m w hR => ?_
    have hs' : Sl (fun b o => m b = some o) 5 _ _ := hs.mono hR
    refine WK.seq ?_
    refine WK.region ?_
    refine WL.box rfl rfl fun b1 => ?_
    refine WL.asC rfl ?_
    refine WL.nil ?_
    refine WK.seq ?_
    refine WK.seq ?_
    refine WK.region ?_
    refine WL.fieldO rfl rfl ?_
    refine WL.load1O rfl rfl (by first | exact .here | exact .there .here | exact .there (.there .here) | exact .there (.there (.there .here)) | exact .there (.there (.there (.there .here))) | exact .there (.there (.there (.there (.there .here))))) (show _ = some (.slice _ _ _) from rfl) ?_
    refine WL.lenSl rfl rfl ?_
    refine WL.gtr rfl rfl rfl ?_
    refine WL.nil ?_
    -- cond
    refine WK.cond rfl (fun h1 => ?_) (fun h1 => ?_)
    · refine WK.seq ?_
      refine WK.region ?_
      refine WL.asC rfl ?_
      refine WL.nil ?_
      refine WK.ret ?_
      refine WK.ret_code ?_
      -- end
      refine WK.end1 rfl (show _ = .int _ _ from rfl) ?_
      rw [hlen] at h1; rw [chkC, if_pos h1]
    · skip
      rw [hlen] at h1; rw [chkC, if_neg (by rw [h1]; simp)]
      refine WK.skip ?_
      refine WK.seq ?_
      refine WK.seq ?_
      refine WK.region ?_
      refine WL.asC rfl ?_
      refine WL.nil ?_
      refine WK.block ?_
      -- loop
      refine WK.loop (G := Nat) (fun i => [(3, .int .i64 (i : Nat)), (1, .pointer (some ⟨b1, 0, none⟩))]) (fun _ => m) (fun _ => [[(b1, .cells #[.slice a vs.length k] 24 (0, 0))]])
        (fun i => i ≤ c.props.length ∧ chkPs (chkC d) (c.props.drop i) = chkPs (chkC d) c.props) (fun i => c.props.length - i) 0 ⟨by simp, rfl⟩ ⟨rfl, rfl, trivial⟩ rfl rfl ?_
      rintro i ρ ⟨hi, hch⟩
      replace hi : i ≤ c.props.length := hi
      refine WK.seq ?_
      refine WK.seq ?_
      refine WK.region ?_
      refine WL.mvI rfl rfl ?_
      refine WL.fieldO rfl rfl ?_
      refine WL.load1O rfl rfl (by first | exact .here | exact .there .here | exact .there (.there .here) | exact .there (.there (.there .here)) | exact .there (.there (.there (.there .here))) | exact .there (.there (.there (.there (.there .here))))) (show _ = some (.slice _ _ _) from rfl) ?_
      refine WL.lenSl rfl rfl ?_
      refine WL.lss rfl rfl rfl ?_
      refine WL.nil ?_
      -- cond
      refine WK.cond rfl (fun h => ?_) (fun h => ?_)
      · have hlt : i < vs.length := by simpa using h
        have hlt2 : i < c.props.length := by omega
        have hv : vs[i]? = some vs[i] := by simp [hlt]
        obtain ⟨h0, sp, sa, cs, hx, hsp, hsa, hcl, hcb, hce⟩ := hel i vs[i] c.props[i] hv (by simp [hlt2])
        rw [List.drop_eq_getElem_cons hlt2, chkPs] at hch
        have hdd : ∀ a ∈ (c.props[i]).2, Deepest d a := hd _ (List.getElem_mem hlt2)
        generalize c.props[i] = p at *
        obtain ⟨⟨g, n, ps, val⟩, ag⟩ := p
        obtain ⟨hg, hn, hvl, hps, hb⟩ := h0
        replace hg : g.length ≤ 1048576 := hg
        replace hn : n.length ≤ 1048576 := hn
        replace hvl : val.length ≤ 1048576 := hvl
        replace hps : ps.length ≤ 1048576 := hps
        replace hb : ∀ p ∈ ps, p.1.length ≤ 1048576 ∧ p.2.length ≤ 1048576 := hb
        have hb' : ∀ p ∈ ps, p.1.length ≤ 1000000000 ∧ p.2.length ≤ 1000000000 := fun p hp => ⟨Nat.le_trans (hb p hp).1 (by decide), Nat.le_trans (hb p hp).2 (by decide)⟩
        obtain ⟨a2, k2, hsav, _⟩ := hsa.shape
        subst hsav
        replace hsp : Sl R 2 sp (ps.map parV) := hsp
        obtain ⟨a4, k4, hspv, _⟩ := hsp.shape
        rw [List.length_map] at hspv
        subst hspv
        rw [hx] at hv
        replace hv : vs[i]? = some (propV g n (.slice a4 ps.length k4) val (.slice a2 cs.length k2)) := hv
        have hfit := hs'.one hv
        have hsp' : Sl (fun b o => m b = some o) 2 _ _ := hsp.mono hR
        have hsa' : Sl (fun b o => m b = some o) 1 _ _ := hsa.mono hR
        have fin : ∀ e : Int, chkOne ⟨g, n, ps, val⟩ ag.length = e → e ≠ 0 → chkPs (chkC d) c.props = e := by
          intro e he hne
          rw [← hch]
          show (if !decide (chkOne ⟨g, n, ps, val⟩ ag.length = 0) then chkOne ⟨g, n, ps, val⟩ ag.length else _) = e
          rw [he, if_pos (by simpa using hne)]
        refine WK.skip ?_
        refine WK.seq ?_
        refine WK.block ?_
        refine WK.seq ?_
        refine WK.region ?_
        refine WL.fieldO rfl rfl ?_
        refine WL.load1O rfl rfl (by first | exact .here | exact .there .here | exact .there (.there .here) | exact .there (.there (.there .here)) | exact .there (.there (.there (.there .here))) | exact .there (.there (.there (.there (.there .here))))) (show _ = some (.slice _ _ _) from rfl) ?_
        refine WL.mvI rfl rfl ?_
        refine WL.indexE rfl rfl hs' rfl rfl hv fun p22 hp22 => ?_
        refine WL.loadA rfl rfl (hp22.rd (Le.refl _)) rfl ?_
        refine WL.alloc rfl fun b4 => ?_
        refine WL.storeAO rfl rfl rfl (by first | exact .here | exact .there .here | exact .there (.there .here) | exact .there (.there (.there .here)) | exact .there (.there (.there (.there .here))) | exact .there (.there (.there (.there (.there .here))))) (by rfl) (by rfl) hfit.2 ?_
        refine WL.nil ?_
        refine WK.seq ?_
        refine WK.region ?_
        refine WL.fieldO rfl rfl ?_
        refine WL.store1O rfl (show _ = (str _) from rfl) rfl (by first | exact .here | exact .there .here | exact .there (.there .here) | exact .there (.there (.there .here)) | exact .there (.there (.there (.there .here))) | exact .there (.there (.there (.there (.there .here))))) rfl ?_
        refine WL.fieldO rfl rfl ?_
        refine WL.store1O rfl (show _ = (.slice _ _ _) from rfl) rfl (by first | exact .here | exact .there .here | exact .there (.there .here) | exact .there (.there (.there .here)) | exact .there (.there (.there (.there .here))) | exact .there (.there (.there (.there (.there .here))))) rfl ?_
        refine WL.nil ?_
        refine WK.seq ?_
        refine WK.region ?_
        refine WL.loadAO rfl rfl (by first | exact .here | exact .there .here | exact .there (.there .here) | exact .there (.there (.there .here)) | exact .there (.there (.there (.there .here))) | exact .there (.there (.there (.there (.there .here))))) (by rfl) ?_
        refine WL.callm (rcheck_pm (hsp'.rd (Le.refl _)) g n [] none 0 0 (by omega) (by omega) (by simp) hb') rfl rfl rfl ?_
        refine WL.asI rfl rfl ?_
        refine WL.nil ?_
        refine WK.seq ?_
        refine WK.seq ?_
        refine WK.region ?_
        refine WL.mvI rfl rfl ?_
        refine WL.neq rfl rfl rfl ?_
        refine WL.nil ?_
        -- cond
        refine WK.cond rfl (fun e1 => ?_) (fun e1 => ?_)
        · refine WK.seq ?_
          refine WK.region ?_
          refine WL.mvI rfl rfl ?_
          refine WL.asI rfl rfl ?_
          refine WL.nil ?_
          refine WK.ret ?_
          refine WK.ret_code ?_
          refine WK.ret_blk ?_
          refine WK.ret_code ?_
          refine WK.ret_lp ?_
          refine WK.ret_blk ?_
          refine WK.ret_code ?_
          -- end
          refine WK.end1 rfl (show _ = .int _ _ from rfl) ?_
          rw [fin (chkProp g n ps [] 0) (by simp only [chkOne, e1, if_true]) (by simpa using e1)]
        · skip
          refine WK.skip ?_
          refine WK.seq ?_
          refine WK.seq ?_
          refine WK.region ?_
          refine WL.fieldO rfl rfl ?_
          refine WL.load1O rfl rfl (by first | exact .here | exact .there .here | exact .there (.there .here) | exact .there (.there (.there .here)) | exact .there (.there (.there (.there .here))) | exact .there (.there (.there (.there (.there .here))))) (show _ = some (.slice _ _ _) from rfl) ?_
          refine WL.lenSl rfl rfl ?_
          refine WL.gtr rfl rfl rfl ?_
          refine WL.nil ?_
          -- cond
          refine WK.cond rfl (fun h2 => ?_) (fun h2 => ?_)
          · refine WK.seq ?_
            refine WK.region ?_
            refine WL.asC rfl ?_
            refine WL.nil ?_
            refine WK.ret ?_
            refine WK.ret_code ?_
            refine WK.ret_blk ?_
            refine WK.ret_code ?_
            refine WK.ret_lp ?_
            refine WK.ret_blk ?_
            refine WK.ret_code ?_
            -- end
            refine WK.end1 rfl (show _ = .int _ _ from rfl) ?_
            rw [fin 4 (by simp only [chkOne, e1, h2, Bool.false_eq_true, if_false, if_true]) (by decide)]
          · skip
            refine WK.skip ?_
            refine WK.seq ?_
            refine WK.seq ?_
            refine WK.region ?_
            refine WL.asC rfl ?_
            refine WL.nil ?_
            refine WK.block ?_
            -- loop
            refine WK.loop (G := Nat) (fun j => [(6, .int .i64 (j : Nat)), (3, .int .i64 (i : Nat)), (1, .pointer (some ⟨b1, 0, none⟩)), (4, .pointer (some ⟨b4, 0, none⟩))]) (fun _ => m) (fun _ => [[(b4, .cells (propV g n (.slice a4 ps.length k4) [] (.slice none 0 0)).cells 42 (0, 0))], [(b1, .cells #[.slice a vs.length k] 24 (0, 0))]])
              (fun j => j ≤ ps.length ∧ (ps.take j).any oddB = false) (fun j => ps.length - j) 0 ⟨by simp, by simp⟩ ⟨rfl, rfl, rfl, rfl, trivial⟩ rfl rfl ?_
            rintro j ρ ⟨hj, hany⟩
            refine WK.seq ?_
            refine WK.seq ?_
            refine WK.region ?_
            refine WL.mvI rfl rfl ?_
            refine WL.fieldO rfl rfl ?_
            refine WL.load1O rfl rfl (by first | exact .here | exact .there .here | exact .there (.there .here) | exact .there (.there (.there .here)) | exact .there (.there (.there (.there .here))) | exact .there (.there (.there (.there (.there .here))))) (show _ = some (.slice _ _ _) from rfl) ?_
            refine WL.lenSl rfl rfl ?_
            refine WL.lss rfl rfl rfl ?_
            refine WL.nil ?_
            -- cond
            refine WK.cond rfl (fun h3 => ?_) (fun h3 => ?_)
            · have hjt : j < ps.length := by simpa using h3
              have hpc : (ps.map parV)[j]? = some (parV ps[j]) := by simp [hjt]
              have hbj := hb _ (List.getElem_mem hjt)
              have hodd := any_take_succ hany hjt
              have hodd2 := any_true (p := oddB) hjt
              have hone := parV_one ps[j]
              generalize ps[j] = q at *
              refine WK.skip ?_
              refine WK.seq ?_
              refine WK.block ?_
              refine WK.seq ?_
              refine WK.region ?_
              refine WL.fieldO rfl rfl ?_
              refine WL.load1O rfl rfl (by first | exact .here | exact .there .here | exact .there (.there .here) | exact .there (.there (.there .here)) | exact .there (.there (.there (.there .here))) | exact .there (.there (.there (.there (.there .here))))) (show _ = some (.slice _ _ _) from rfl) ?_
              refine WL.mvI rfl rfl ?_
              refine WL.indexE rfl rfl hsp' rfl rfl hpc fun p45 hp45 => ?_
              refine WL.loadA rfl rfl (hp45.rd (Le.refl _)) rfl ?_
              refine WL.alloc rfl fun b7 => ?_
              refine WL.storeAO rfl rfl rfl (by first | exact .here | exact .there .here | exact .there (.there .here) | exact .there (.there (.there .here)) | exact .there (.there (.there (.there .here))) | exact .there (.there (.there (.there (.there .here))))) (by rfl) (by rfl) hone ?_
              refine WL.nil ?_
              refine WK.seq ?_
              -- draw
              refine WK.mid (fun (_ : Unit) => [(72, .bool (oddB q)), (6, .int .i64 (j : Nat)), (3, .int .i64 (i : Nat)), (1, .pointer (some ⟨b1, 0, none⟩)), (4, .pointer (some ⟨b4, 0, none⟩))]) (fun _ => m) (fun _ => [[(b4, .cells (propV g n (.slice a4 ps.length k4) [] (.slice none 0 0)).cells 42 (0, 0))], [(b1, .cells #[.slice a vs.length k] 24 (0, 0))]]) (fun _ => True) ?_ ?_
              · skip
                cases hA : decide (q.1 = [69, 78, 67, 79, 68, 73, 78, 71]) with
                | true =>
                  refine WK.drawn 26 #[[], [0], [0, 1], [0, 1, 2], [0, 1, 2, 3], [0, 1, 2, 3, 4], [0, 1, 2, 3, 4, 5], [0, 1, 2, 3, 4, 5, 6], [0, 1, 2, 3, 4, 5, 6, 7], [0, 1, 2, 3, 4, 5, 6, 7, 8], [0, 1, 2, 3, 4, 5, 6, 7, 8, 9], [0, 1, 2, 3, 4, 5, 6, 7, 8, 9, 10], [0, 1, 2, 3, 4, 5, 6, 7, 8, 9, 10, 11], [0, 1, 2, 3, 4, 5, 6, 7, 8, 9, 10, 11, 12], [0, 1, 2, 3, 4, 5, 6, 7, 8, 9, 10, 11, 12, 13], [0, 1, 2, 3, 4, 5, 6, 7, 8, 9, 10, 11, 12, 13, 14], [0, 1, 2, 3, 4, 5, 6, 7, 8, 9, 10, 11, 12, 13, 14, 15], [0, 1, 2, 3, 4, 5, 6, 7, 8, 9, 10, 11, 12, 13, 14, 15, 16], [0, 1, 2, 3, 4, 5, 6, 7, 8, 9, 10, 11, 12, 13, 14, 15, 16, 17], [0, 1, 2, 3, 4, 5, 6, 7, 8, 9, 10, 11, 12, 13, 14, 15, 16, 17, 18], [0, 1, 2, 3, 4, 5, 6, 7, 8, 9, 10, 11, 12, 13, 14, 15, 16], [0, 1, 2, 3, 4, 5, 6, 7, 8, 9, 10, 11, 12, 13, 14, 15, 16, 20], [0, 1, 2, 3, 4, 5, 6, 7, 8, 9, 10, 11, 12, 13, 14, 15, 16, 17, 18, 19, 20, 21], [0, 1, 2, 3, 4, 5, 6, 7, 8, 9, 10, 11, 12, 13, 14, 15, 16, 17, 18, 19, 20, 21, 22], [0, 1, 2, 3, 4, 5, 6, 7, 8, 9, 10, 11, 12, 13, 14, 15, 16, 17, 18, 19, 20, 21, 22, 23], [0, 1, 2, 3, 4, 5, 6, 7, 8, 9, 10, 11, 12, 13, 14, 15, 16, 17, 18, 19, 20, 21, 22, 23, 24]] mixed_ok (by kernel_rfl) ?_
                  refine WR.cons rfl rfl (fun K h => WL.fieldO rfl rfl h) ?_
                  refine WR.cons rfl rfl (fun K h => WL.load1O rfl rfl (by first | exact .here | exact .there .here | exact .there (.there .here) | exact .there (.there (.there .here)) | exact .there (.there (.there (.there .here))) | exact .there (.there (.there (.there (.there .here))))) (show _ = some (str _) from rfl) h) ?_
                  refine WR.cons rfl rfl (fun K h => WL.eqlS rfl rfl rfl h) ?_
                  refine WR.cons rfl rfl (fun K h => WL.mvB rfl rfl h) ?_
                  refine WR.cons rfl rfl (fun K h => WL.guardSkip rfl hA rfl h) ?_
                  refine WR.cons rfl rfl (fun K h => WL.guardSkip rfl hA rfl h) ?_
                  refine WR.cons rfl rfl (fun K h => WL.guardSkip rfl hA rfl h) ?_
                  refine WR.cons rfl rfl (fun K h => WL.pickT rfl rfl hA rfl h) ?_
                  refine WR.cons rfl rfl (fun K h => WL.mvB rfl rfl h) ?_
                  refine WR.cons rfl rfl (fun K h => WL.guardSkip rfl rfl rfl h) ?_
                  refine WR.cons rfl rfl (fun K h => WL.guardSkip rfl rfl rfl h) ?_
                  refine WR.cons rfl rfl (fun K h => WL.guardSkip rfl rfl rfl h) ?_
                  refine WR.cons rfl rfl (fun K h => WL.guardSkip rfl rfl rfl h) ?_
                  refine WR.cons rfl rfl (fun K h => WL.guardNone rfl rfl h) ?_
                  refine WR.cons rfl rfl (fun K h => WL.guardNone rfl rfl h) ?_
                  refine WR.cons rfl rfl (fun K h => WL.guardNone rfl rfl h) ?_
                  refine WR.cons rfl rfl (fun K h => WL.guardNone rfl rfl h) ?_
                  refine WR.cons rfl rfl (fun K h => WL.guardNone rfl rfl h) ?_
                  refine WR.cons rfl rfl (fun K h => WL.guardNone rfl rfl h) ?_
                  refine WR.cons rfl rfl (fun K h => WL.guardNone rfl rfl h) ?_
                  refine WR.cons rfl rfl (fun K h => WL.guardNone rfl rfl h) ?_
                  refine WR.cons rfl rfl (fun K h => WL.guardNone rfl rfl h) ?_
                  refine WR.cons rfl rfl (fun K h => WL.guardNone rfl rfl h) ?_
                  refine WR.cons rfl rfl (fun K h => WL.guardNone rfl rfl h) ?_
                  refine WR.cons rfl rfl (fun K h => WL.guardSkip rfl rfl rfl h) ?_
                  refine WR.cons rfl rfl (fun K h => WL.pickT rfl rfl rfl rfl h) ?_
                  refine WR.nil ?_
                  refine WL.nil ?_
                  -- again
                  refine WK.drop (.drop .refl) ?_
                  refine WK.met () trivial ⟨congrArg Value.bool ?_, rfl, rfl, rfl, rfl, trivial⟩ rfl rfl
                  simp only [oddB, saysB, hA, Bool.true_or, Bool.false_or, Bool.true_and, Bool.false_and, Bool.or_true]
                | false =>
                  cases hB : decide (q.1 = [67, 72, 65, 82, 83, 69, 84]) with
                  | true =>
                    refine WK.drawn 26 #[[], [0], [0, 1], [0, 1, 2], [0, 1, 2, 3], [0, 1, 2, 3, 4], [0, 1, 2, 3, 4, 5], [0, 1, 2, 3, 4, 5, 6], [0, 1, 2, 3, 4, 5, 6, 7], [0, 1, 2, 3, 4, 5, 6, 7, 8], [0, 1, 2, 3, 4, 5, 6, 7, 8, 9], [0, 1, 2, 3, 4, 5, 6, 7, 8, 9, 10], [0, 1, 2, 3, 4, 5, 6, 7, 8, 9, 10, 11], [0, 1, 2, 3, 4, 5, 6, 7, 8, 9, 10, 11, 12], [0, 1, 2, 3, 4, 5, 6, 7, 8, 9, 10, 11, 12, 13], [0, 1, 2, 3, 4, 5, 6, 7, 8, 9, 10, 11, 12, 13, 14], [0, 1, 2, 3, 4, 5, 6, 7, 8, 9, 10, 11, 12, 13, 14, 15], [0, 1, 2, 3, 4, 5, 6, 7, 8, 9, 10, 11, 12, 13, 14, 15, 16], [0, 1, 2, 3, 4, 5, 6, 7, 8, 9, 10, 11, 12, 13, 14, 15, 16, 17], [0, 1, 2, 3, 4, 5, 6, 7, 8, 9, 10, 11, 12, 13, 14, 15, 16, 17, 18], [0, 1, 2, 3, 4, 5, 6, 7, 8, 9, 10, 11, 12, 13, 14, 15, 16], [0, 1, 2, 3, 4, 5, 6, 7, 8, 9, 10, 11, 12, 13, 14, 15, 16, 20], [0, 1, 2, 3, 4, 5, 6, 7, 8, 9, 10, 11, 12, 13, 14, 15, 16, 17, 18, 19, 20, 21], [0, 1, 2, 3, 4, 5, 6, 7, 8, 9, 10, 11, 12, 13, 14, 15, 16, 17, 18, 19, 20, 21, 22], [0, 1, 2, 3, 4, 5, 6, 7, 8, 9, 10, 11, 12, 13, 14, 15, 16, 17, 18, 19, 20, 21, 22, 23], [0, 1, 2, 3, 4, 5, 6, 7, 8, 9, 10, 11, 12, 13, 14, 15, 16, 17, 18, 19, 20, 21, 22, 23, 24]] mixed_ok (by kernel_rfl) ?_
                    refine WR.cons rfl rfl (fun K h => WL.fieldO rfl rfl h) ?_
                    refine WR.cons rfl rfl (fun K h => WL.load1O rfl rfl (by first | exact .here | exact .there .here | exact .there (.there .here) | exact .there (.there (.there .here)) | exact .there (.there (.there (.there .here))) | exact .there (.there (.there (.there (.there .here))))) (show _ = some (str _) from rfl) h) ?_
                    refine WR.cons rfl rfl (fun K h => WL.eqlS rfl rfl rfl h) ?_
                    refine WR.cons rfl rfl (fun K h => WL.mvB rfl rfl h) ?_
                    refine WR.cons rfl rfl (fun K h => WL.guard rfl hA (WL.fieldO rfl rfl h)) ?_
                    refine WR.cons rfl rfl (fun K h => WL.guard rfl hA (WL.load1O rfl rfl (by first | exact .here | exact .there .here | exact .there (.there .here) | exact .there (.there (.there .here)) | exact .there (.there (.there (.there .here))) | exact .there (.there (.there (.there (.there .here))))) (show _ = some (str _) from rfl) h)) ?_
                    refine WR.cons rfl rfl (fun K h => WL.guard rfl hA (WL.eqlS rfl rfl rfl h)) ?_
                    refine WR.cons rfl rfl (fun K h => WL.pickF rfl rfl hA rfl h) ?_
                    refine WR.cons rfl rfl (fun K h => WL.mvB rfl rfl h) ?_
                    refine WR.cons rfl rfl (fun K h => WL.guardSkip rfl hB rfl h) ?_
                    refine WR.cons rfl rfl (fun K h => WL.guardSkip rfl hB rfl h) ?_
                    refine WR.cons rfl rfl (fun K h => WL.guardSkip rfl hB rfl h) ?_
                    refine WR.cons rfl rfl (fun K h => WL.guardSkip rfl hB rfl h) ?_
                    refine WR.cons rfl rfl (fun K h => WL.guardNone rfl rfl h) ?_
                    refine WR.cons rfl rfl (fun K h => WL.guardNone rfl rfl h) ?_
                    refine WR.cons rfl rfl (fun K h => WL.guardNone rfl rfl h) ?_
                    refine WR.cons rfl rfl (fun K h => WL.guardNone rfl rfl h) ?_
                    refine WR.cons rfl rfl (fun K h => WL.guardNone rfl rfl h) ?_
                    refine WR.cons rfl rfl (fun K h => WL.guardNone rfl rfl h) ?_
                    refine WR.cons rfl rfl (fun K h => WL.guardNone rfl rfl h) ?_
                    refine WR.cons rfl rfl (fun K h => WL.guardNone rfl rfl h) ?_
                    refine WR.cons rfl rfl (fun K h => WL.guardNone rfl rfl h) ?_
                    refine WR.cons rfl rfl (fun K h => WL.guardNone rfl rfl h) ?_
                    refine WR.cons rfl rfl (fun K h => WL.guardNone rfl rfl h) ?_
                    refine WR.cons rfl rfl (fun K h => WL.guardSkip rfl hB rfl h) ?_
                    refine WR.cons rfl rfl (fun K h => WL.pickT rfl rfl hB rfl h) ?_
                    refine WR.nil ?_
                    refine WL.nil ?_
                    -- again
                    refine WK.drop (.drop .refl) ?_
                    refine WK.met () trivial ⟨congrArg Value.bool ?_, rfl, rfl, rfl, rfl, trivial⟩ rfl rfl
                    simp only [oddB, saysB, hA, hB, Bool.true_or, Bool.false_or, Bool.true_and, Bool.false_and, Bool.or_true]
                  | false =>
                    cases hC : decide (q.1 = []) with
                    | false =>
                      refine WK.drawn 26 #[[], [0], [0, 1], [0, 1, 2], [0, 1, 2, 3], [0, 1, 2, 3, 4], [0, 1, 2, 3, 4, 5], [0, 1, 2, 3, 4, 5, 6], [0, 1, 2, 3, 4, 5, 6, 7], [0, 1, 2, 3, 4, 5, 6, 7, 8], [0, 1, 2, 3, 4, 5, 6, 7, 8, 9], [0, 1, 2, 3, 4, 5, 6, 7, 8, 9, 10], [0, 1, 2, 3, 4, 5, 6, 7, 8, 9, 10, 11], [0, 1, 2, 3, 4, 5, 6, 7, 8, 9, 10, 11, 12], [0, 1, 2, 3, 4, 5, 6, 7, 8, 9, 10, 11, 12, 13], [0, 1, 2, 3, 4, 5, 6, 7, 8, 9, 10, 11, 12, 13, 14], [0, 1, 2, 3, 4, 5, 6, 7, 8, 9, 10, 11, 12, 13, 14, 15], [0, 1, 2, 3, 4, 5, 6, 7, 8, 9, 10, 11, 12, 13, 14, 15, 16], [0, 1, 2, 3, 4, 5, 6, 7, 8, 9, 10, 11, 12, 13, 14, 15, 16, 17], [0, 1, 2, 3, 4, 5, 6, 7, 8, 9, 10, 11, 12, 13, 14, 15, 16, 17, 18], [0, 1, 2, 3, 4, 5, 6, 7, 8, 9, 10, 11, 12, 13, 14, 15, 16], [0, 1, 2, 3, 4, 5, 6, 7, 8, 9, 10, 11, 12, 13, 14, 15, 16, 20], [0, 1, 2, 3, 4, 5, 6, 7, 8, 9, 10, 11, 12, 13, 14, 15, 16, 17, 18, 19, 20, 21], [0, 1, 2, 3, 4, 5, 6, 7, 8, 9, 10, 11, 12, 13, 14, 15, 16, 17, 18, 19, 20, 21, 22], [0, 1, 2, 3, 4, 5, 6, 7, 8, 9, 10, 11, 12, 13, 14, 15, 16, 17, 18, 19, 20, 21, 22, 23], [0, 1, 2, 3, 4, 5, 6, 7, 8, 9, 10, 11, 12, 13, 14, 15, 16, 17, 18, 19, 20, 21, 22, 23, 24]] mixed_ok (by kernel_rfl) ?_
                      refine WR.cons rfl rfl (fun K h => WL.fieldO rfl rfl h) ?_
                      refine WR.cons rfl rfl (fun K h => WL.load1O rfl rfl (by first | exact .here | exact .there .here | exact .there (.there .here) | exact .there (.there (.there .here)) | exact .there (.there (.there (.there .here))) | exact .there (.there (.there (.there (.there .here))))) (show _ = some (str _) from rfl) h) ?_
                      refine WR.cons rfl rfl (fun K h => WL.eqlS rfl rfl rfl h) ?_
                      refine WR.cons rfl rfl (fun K h => WL.mvB rfl rfl h) ?_
                      refine WR.cons rfl rfl (fun K h => WL.guard rfl hA (WL.fieldO rfl rfl h)) ?_
                      refine WR.cons rfl rfl (fun K h => WL.guard rfl hA (WL.load1O rfl rfl (by first | exact .here | exact .there .here | exact .there (.there .here) | exact .there (.there (.there .here)) | exact .there (.there (.there (.there .here))) | exact .there (.there (.there (.there (.there .here))))) (show _ = some (str _) from rfl) h)) ?_
                      refine WR.cons rfl rfl (fun K h => WL.guard rfl hA (WL.eqlS rfl rfl rfl h)) ?_
                      refine WR.cons rfl rfl (fun K h => WL.pickF rfl rfl hA rfl h) ?_
                      refine WR.cons rfl rfl (fun K h => WL.mvB rfl rfl h) ?_
                      refine WR.cons rfl rfl (fun K h => WL.guard rfl hB (WL.fieldO rfl rfl h)) ?_
                      refine WR.cons rfl rfl (fun K h => WL.guard rfl hB (WL.load1O rfl rfl (by first | exact .here | exact .there .here | exact .there (.there .here) | exact .there (.there (.there .here)) | exact .there (.there (.there (.there .here))) | exact .there (.there (.there (.there (.there .here))))) (show _ = some (str _) from rfl) h)) ?_
                      refine WR.cons rfl rfl (fun K h => WL.guard rfl hB (WL.eqlS rfl rfl rfl h)) ?_
                      refine WR.cons rfl rfl (fun K h => WL.guard rfl hB (WL.mvB rfl rfl h)) ?_
                      refine WR.cons rfl rfl (fun K h => WL.guardSkip rfl hC rfl h) ?_
                      refine WR.cons rfl rfl (fun K h => WL.guardSkip rfl hC rfl h) ?_
                      refine WR.cons rfl rfl (fun K h => WL.guardSkip rfl hC rfl h) ?_
                      refine WR.cons rfl rfl (fun K h => WL.guardSkip rfl hC rfl h) ?_
                      refine WR.cons rfl rfl (fun K h => WL.guardNone rfl rfl h) ?_
                      refine WR.cons rfl rfl (fun K h => WL.guardNone rfl rfl h) ?_
                      refine WR.cons rfl rfl (fun K h => WL.guardNone rfl rfl h) ?_
                      refine WR.cons rfl rfl (fun K h => WL.guardNone rfl rfl h) ?_
                      refine WR.cons rfl rfl (fun K h => WL.guardNone rfl rfl h) ?_
                      refine WR.cons rfl rfl (fun K h => WL.guardNone rfl rfl h) ?_
                      refine WR.cons rfl rfl (fun K h => WL.guardSkip rfl hC rfl h) ?_
                      refine WR.cons rfl rfl (fun K h => WL.guard rfl hB (WL.pickF rfl rfl hC rfl h)) ?_
                      refine WR.cons rfl rfl (fun K h => WL.pickF rfl rfl hB rfl h) ?_
                      refine WR.nil ?_
                      refine WL.nil ?_
                      -- again
                      refine WK.drop (.drop .refl) ?_
                      refine WK.met () trivial ⟨congrArg Value.bool ?_, rfl, rfl, rfl, rfl, trivial⟩ rfl rfl
                      simp only [oddB, saysB, hA, hB, hC, Bool.true_or, Bool.false_or, Bool.true_and, Bool.false_and, Bool.or_true]
                    | true =>
                      cases hD : wayB q.2 with
                      | true =>
                        refine WK.drawn 26 #[[], [0], [0, 1], [0, 1, 2], [0, 1, 2, 3], [0, 1, 2, 3, 4], [0, 1, 2, 3, 4, 5], [0, 1, 2, 3, 4, 5, 6], [0, 1, 2, 3, 4, 5, 6, 7], [0, 1, 2, 3, 4, 5, 6, 7, 8], [0, 1, 2, 3, 4, 5, 6, 7, 8, 9], [0, 1, 2, 3, 4, 5, 6, 7, 8, 9, 10], [0, 1, 2, 3, 4, 5, 6, 7, 8, 9, 10, 11], [0, 1, 2, 3, 4, 5, 6, 7, 8, 9, 10, 11, 12], [0, 1, 2, 3, 4, 5, 6, 7, 8, 9, 10, 11, 12, 13], [0, 1, 2, 3, 4, 5, 6, 7, 8, 9, 10, 11, 12, 13, 14], [0, 1, 2, 3, 4, 5, 6, 7, 8, 9, 10, 11, 12, 13, 14, 15], [0, 1, 2, 3, 4, 5, 6, 7, 8, 9, 10, 11, 12, 13, 14, 15, 16], [0, 1, 2, 3, 4, 5, 6, 7, 8, 9, 10, 11, 12, 13, 14, 15, 16, 17], [0, 1, 2, 3, 4, 5, 6, 7, 8, 9, 10, 11, 12, 13, 14, 15, 16, 17, 18], [0, 1, 2, 3, 4, 5, 6, 7, 8, 9, 10, 11, 12, 13, 14, 15, 16], [0, 1, 2, 3, 4, 5, 6, 7, 8, 9, 10, 11, 12, 13, 14, 15, 16, 20], [0, 1, 2, 3, 4, 5, 6, 7, 8, 9, 10, 11, 12, 13, 14, 15, 16, 17, 18, 19, 20, 21], [0, 1, 2, 3, 4, 5, 6, 7, 8, 9, 10, 11, 12, 13, 14, 15, 16, 17, 18, 19, 20, 21, 22], [0, 1, 2, 3, 4, 5, 6, 7, 8, 9, 10, 11, 12, 13, 14, 15, 16, 17, 18, 19, 20, 21, 22, 23], [0, 1, 2, 3, 4, 5, 6, 7, 8, 9, 10, 11, 12, 13, 14, 15, 16, 17, 18, 19, 20, 21, 22, 23, 24]] mixed_ok (by kernel_rfl) ?_
                        refine WR.cons rfl rfl (fun K h => WL.fieldO rfl rfl h) ?_
                        refine WR.cons rfl rfl (fun K h => WL.load1O rfl rfl (by first | exact .here | exact .there .here | exact .there (.there .here) | exact .there (.there (.there .here)) | exact .there (.there (.there (.there .here))) | exact .there (.there (.there (.there (.there .here))))) (show _ = some (str _) from rfl) h) ?_
                        refine WR.cons rfl rfl (fun K h => WL.eqlS rfl rfl rfl h) ?_
                        refine WR.cons rfl rfl (fun K h => WL.mvB rfl rfl h) ?_
                        refine WR.cons rfl rfl (fun K h => WL.guard rfl hA (WL.fieldO rfl rfl h)) ?_
                        refine WR.cons rfl rfl (fun K h => WL.guard rfl hA (WL.load1O rfl rfl (by first | exact .here | exact .there .here | exact .there (.there .here) | exact .there (.there (.there .here)) | exact .there (.there (.there (.there .here))) | exact .there (.there (.there (.there (.there .here))))) (show _ = some (str _) from rfl) h)) ?_
                        refine WR.cons rfl rfl (fun K h => WL.guard rfl hA (WL.eqlS rfl rfl rfl h)) ?_
                        refine WR.cons rfl rfl (fun K h => WL.pickF rfl rfl hA rfl h) ?_
                        refine WR.cons rfl rfl (fun K h => WL.mvB rfl rfl h) ?_
                        refine WR.cons rfl rfl (fun K h => WL.guard rfl hB (WL.fieldO rfl rfl h)) ?_
                        refine WR.cons rfl rfl (fun K h => WL.guard rfl hB (WL.load1O rfl rfl (by first | exact .here | exact .there .here | exact .there (.there .here) | exact .there (.there (.there .here)) | exact .there (.there (.there (.there .here))) | exact .there (.there (.there (.there (.there .here))))) (show _ = some (str _) from rfl) h)) ?_
                        refine WR.cons rfl rfl (fun K h => WL.guard rfl hB (WL.eqlS rfl rfl rfl h)) ?_
                        refine WR.cons rfl rfl (fun K h => WL.guard rfl hB (WL.mvB rfl rfl h)) ?_
                        refine WR.cons rfl rfl (fun K h => WL.guard rfl hC (WL.fieldO rfl rfl h)) ?_
                        refine WR.cons rfl rfl (fun K h => WL.guard rfl hC (WL.load1O rfl rfl (by first | exact .here | exact .there .here | exact .there (.there .here) | exact .there (.there (.there .here)) | exact .there (.there (.there (.there .here))) | exact .there (.there (.there (.there (.there .here))))) (show _ = some (str _) from rfl) h)) ?_
                        refine WR.cons rfl rfl (fun K h => WL.guard rfl hC (WL.callp (how_pu _) rfl rfl rfl h)) ?_
                        refine WR.cons rfl rfl (fun K h => WL.guard rfl hC (WL.mvB rfl rfl h)) ?_
                        refine WR.cons rfl rfl (fun K h => WL.guardSkip rfl hD rfl h) ?_
                        refine WR.cons rfl rfl (fun K h => WL.guardSkip rfl hD rfl h) ?_
                        refine WR.cons rfl rfl (fun K h => WL.guardSkip rfl hD rfl h) ?_
                        refine WR.cons rfl rfl (fun K h => WL.guardSkip rfl hD rfl h) ?_
                        refine WR.cons rfl rfl (fun K h => WL.guardSkip rfl hD rfl h) ?_
                        refine WR.cons rfl rfl (fun K h => WL.guardSkip rfl hD rfl h) ?_
                        refine WR.cons rfl rfl (fun K h => WL.guard rfl hC (WL.pickT rfl rfl hD rfl h)) ?_
                        refine WR.cons rfl rfl (fun K h => WL.guard rfl hB (WL.pickT rfl rfl hC rfl h)) ?_
                        refine WR.cons rfl rfl (fun K h => WL.pickF rfl rfl hB rfl h) ?_
                        refine WR.nil ?_
                        refine WL.nil ?_
                        -- again
                        refine WK.drop (.drop .refl) ?_
                        refine WK.met () trivial ⟨congrArg Value.bool ?_, rfl, rfl, rfl, rfl, trivial⟩ rfl rfl
                        simp only [oddB, saysB, hA, hB, hC, hD, Bool.true_or, Bool.false_or, Bool.true_and, Bool.false_and, Bool.or_true]
                      | false =>
                        refine WK.drawn 26 #[[], [0], [0, 1], [0, 1, 2], [0, 1, 2, 3], [0, 1, 2, 3, 4], [0, 1, 2, 3, 4, 5], [0, 1, 2, 3, 4, 5, 6], [0, 1, 2, 3, 4, 5, 6, 7], [0, 1, 2, 3, 4, 5, 6, 7, 8], [0, 1, 2, 3, 4, 5, 6, 7, 8, 9], [0, 1, 2, 3, 4, 5, 6, 7, 8, 9, 10], [0, 1, 2, 3, 4, 5, 6, 7, 8, 9, 10, 11], [0, 1, 2, 3, 4, 5, 6, 7, 8, 9, 10, 11, 12], [0, 1, 2, 3, 4, 5, 6, 7, 8, 9, 10, 11, 12, 13], [0, 1, 2, 3, 4, 5, 6, 7, 8, 9, 10, 11, 12, 13, 14], [0, 1, 2, 3, 4, 5, 6, 7, 8, 9, 10, 11, 12, 13, 14, 15], [0, 1, 2, 3, 4, 5, 6, 7, 8, 9, 10, 11, 12, 13, 14, 15, 16], [0, 1, 2, 3, 4, 5, 6, 7, 8, 9, 10, 11, 12, 13, 14, 15, 16, 17], [0, 1, 2, 3, 4, 5, 6, 7, 8, 9, 10, 11, 12, 13, 14, 15, 16, 17, 18], [0, 1, 2, 3, 4, 5, 6, 7, 8, 9, 10, 11, 12, 13, 14, 15, 16], [0, 1, 2, 3, 4, 5, 6, 7, 8, 9, 10, 11, 12, 13, 14, 15, 16, 20], [0, 1, 2, 3, 4, 5, 6, 7, 8, 9, 10, 11, 12, 13, 14, 15, 16, 17, 18, 19, 20, 21], [0, 1, 2, 3, 4, 5, 6, 7, 8, 9, 10, 11, 12, 13, 14, 15, 16, 17, 18, 19, 20, 21, 22], [0, 1, 2, 3, 4, 5, 6, 7, 8, 9, 10, 11, 12, 13, 14, 15, 16, 17, 18, 19, 20, 21, 22, 23], [0, 1, 2, 3, 4, 5, 6, 7, 8, 9, 10, 11, 12, 13, 14, 15, 16, 17, 18, 19, 20, 21, 22, 23, 24]] mixed_ok (by kernel_rfl) ?_
                        refine WR.cons rfl rfl (fun K h => WL.fieldO rfl rfl h) ?_
                        refine WR.cons rfl rfl (fun K h => WL.load1O rfl rfl (by first | exact .here | exact .there .here | exact .there (.there .here) | exact .there (.there (.there .here)) | exact .there (.there (.there (.there .here))) | exact .there (.there (.there (.there (.there .here))))) (show _ = some (str _) from rfl) h) ?_
                        refine WR.cons rfl rfl (fun K h => WL.eqlS rfl rfl rfl h) ?_
                        refine WR.cons rfl rfl (fun K h => WL.mvB rfl rfl h) ?_
                        refine WR.cons rfl rfl (fun K h => WL.guard rfl hA (WL.fieldO rfl rfl h)) ?_
                        refine WR.cons rfl rfl (fun K h => WL.guard rfl hA (WL.load1O rfl rfl (by first | exact .here | exact .there .here | exact .there (.there .here) | exact .there (.there (.there .here)) | exact .there (.there (.there (.there .here))) | exact .there (.there (.there (.there (.there .here))))) (show _ = some (str _) from rfl) h)) ?_
                        refine WR.cons rfl rfl (fun K h => WL.guard rfl hA (WL.eqlS rfl rfl rfl h)) ?_
                        refine WR.cons rfl rfl (fun K h => WL.pickF rfl rfl hA rfl h) ?_
                        refine WR.cons rfl rfl (fun K h => WL.mvB rfl rfl h) ?_
                        refine WR.cons rfl rfl (fun K h => WL.guard rfl hB (WL.fieldO rfl rfl h)) ?_
                        refine WR.cons rfl rfl (fun K h => WL.guard rfl hB (WL.load1O rfl rfl (by first | exact .here | exact .there .here | exact .there (.there .here) | exact .there (.there (.there .here)) | exact .there (.there (.there (.there .here))) | exact .there (.there (.there (.there (.there .here))))) (show _ = some (str _) from rfl) h)) ?_
                        refine WR.cons rfl rfl (fun K h => WL.guard rfl hB (WL.eqlS rfl rfl rfl h)) ?_
                        refine WR.cons rfl rfl (fun K h => WL.guard rfl hB (WL.mvB rfl rfl h)) ?_
                        refine WR.cons rfl rfl (fun K h => WL.guard rfl hC (WL.fieldO rfl rfl h)) ?_
                        refine WR.cons rfl rfl (fun K h => WL.guard rfl hC (WL.load1O rfl rfl (by first | exact .here | exact .there .here | exact .there (.there .here) | exact .there (.there (.there .here)) | exact .there (.there (.there (.there .here))) | exact .there (.there (.there (.there (.there .here))))) (show _ = some (str _) from rfl) h)) ?_
                        refine WR.cons rfl rfl (fun K h => WL.guard rfl hC (WL.callp (how_pu _) rfl rfl rfl h)) ?_
                        refine WR.cons rfl rfl (fun K h => WL.guard rfl hC (WL.mvB rfl rfl h)) ?_
                        refine WR.cons rfl rfl (fun K h => WL.guard rfl hD (WL.fieldO rfl rfl h)) ?_
                        refine WR.cons rfl rfl (fun K h => WL.guard rfl hD (WL.load1O rfl rfl (by first | exact .here | exact .there .here | exact .there (.there .here) | exact .there (.there (.there .here)) | exact .there (.there (.there (.there .here))) | exact .there (.there (.there (.there (.there .here))))) (show _ = some (str _) from rfl) h)) ?_
                        refine WR.cons rfl rfl (fun K h => WL.guard rfl hD (WL.callp (upper_pu _ (by omega)) rfl rfl rfl h)) ?_
                        refine WR.cons rfl rfl (fun K h => WL.guard rfl hD (WL.fieldO rfl rfl h)) ?_
                        refine WR.cons rfl rfl (fun K h => WL.guard rfl hD (WL.load1O rfl rfl (by first | exact .here | exact .there .here | exact .there (.there .here) | exact .there (.there (.there .here)) | exact .there (.there (.there (.there .here))) | exact .there (.there (.there (.there (.there .here))))) (show _ = some (str _) from rfl) h)) ?_
                        refine WR.cons rfl rfl (fun K h => WL.guard rfl hD (WL.neqS rfl rfl rfl h)) ?_
                        refine WR.cons rfl rfl (fun K h => WL.guard rfl hC (WL.pickF rfl rfl hD rfl h)) ?_
                        refine WR.cons rfl rfl (fun K h => WL.guard rfl hB (WL.pickT rfl rfl hC rfl h)) ?_
                        refine WR.cons rfl rfl (fun K h => WL.pickF rfl rfl hB rfl h) ?_
                        refine WR.nil ?_
                        refine WL.nil ?_
                        -- again
                        refine WK.drop (.drop .refl) ?_
                        refine WK.met () trivial ⟨congrArg Value.bool ?_, rfl, rfl, rfl, rfl, trivial⟩ rfl rfl
                        simp only [oddB, saysB, hA, hB, hC, hD, Bool.true_or, Bool.false_or, Bool.true_and, Bool.false_and, Bool.or_true]
              rintro _ ρ _
              -- cond
              refine WK.cond rfl (fun h4 => ?_) (fun h4 => ?_)
              · refine WK.seq ?_
                refine WK.region ?_
                refine WL.asC rfl ?_
                refine WL.nil ?_
                refine WK.ret ?_
                refine WK.ret_blk ?_
                refine WK.ret_code ?_
                refine WK.ret_lp ?_
                refine WK.ret_blk ?_
                refine WK.ret_code ?_
                refine WK.ret_blk ?_
                refine WK.ret_code ?_
                refine WK.ret_lp ?_
                refine WK.ret_blk ?_
                refine WK.ret_code ?_
                -- end
                refine WK.end1 rfl (show _ = .int _ _ from rfl) ?_
                rw [fin 3 (by simp only [chkOne, e1, h2, hodd2 h4, Bool.false_eq_true, if_false, if_true]) (by decide)]
              · skip
                refine WK.skip ?_
                refine WK.blk ?_
                refine WK.region ?_
                refine WL.mvI rfl rfl ?_
                refine WL.add rfl rfl rfl (by omega) ?_
                refine WL.asI rfl rfl ?_
                refine WL.nil ?_
                -- again
                exact WK.again (j + 1) ⟨by omega, hodd h4⟩ (by omega) ⟨rfl, rfl, rfl, rfl, trivial⟩ rfl rfl
            · skip
              have hjk : j = ps.length := by simp at h3; omega
              subst hjk
              rw [List.take_length] at hany
              refine WK.exit ?_
              refine WK.exit_code ?_
              refine WK.exit_lp ?_
              refine WK.exit_hit ?_
              refine WK.seq ?_
              refine WK.seq ?_
              refine WK.region ?_
              refine WL.fieldO rfl rfl ?_
              refine WL.load1O rfl rfl (by first | exact .here | exact .there .here | exact .there (.there .here) | exact .there (.there (.there .here)) | exact .there (.there (.there (.there .here))) | exact .there (.there (.there (.there (.there .here))))) (show _ = some (str _) from rfl) ?_
              refine WL.callp (rframed_pu _) rfl rfl rfl ?_
              refine WL.nil ?_
              -- cond
              refine WK.cond rfl (fun h5 => ?_) (fun h5 => ?_)
              · refine WK.seq ?_
                refine WK.region ?_
                refine WL.asC rfl ?_
                refine WL.nil ?_
                refine WK.ret ?_
                refine WK.ret_code ?_
                refine WK.ret_blk ?_
                refine WK.ret_code ?_
                refine WK.ret_lp ?_
                refine WK.ret_blk ?_
                refine WK.ret_code ?_
                -- end
                refine WK.end1 rfl (show _ = .int _ _ from rfl) ?_
                rw [fin 14 (by simp only [chkOne, e1, h2, hany, h5, Bool.false_eq_true, if_false, if_true]) (by decide)]
              · skip
                refine WK.skip ?_
                refine WK.seq ?_
                refine WK.region ?_
                refine WL.fieldO rfl rfl ?_
                refine WL.load1O rfl rfl (by first | exact .here | exact .there .here | exact .there (.there .here) | exact .there (.there (.there .here)) | exact .there (.there (.there (.there .here))) | exact .there (.there (.there (.there (.there .here))))) (show _ = some (.slice _ _ _) from rfl) ?_
                refine WL.mvI rfl rfl ?_
                refine WL.indexE rfl rfl hs' rfl rfl hv fun p79 hp79 => ?_
                refine WL.loadA rfl rfl (hp79.rd (Le.refl _)) rfl ?_
                refine WL.storeAO rfl rfl rfl (by first | exact .here | exact .there .here | exact .there (.there .here) | exact .there (.there (.there .here)) | exact .there (.there (.there (.there .here))) | exact .there (.there (.there (.there (.there .here))))) (by rfl) (by rfl) hfit.2 ?_
                refine WL.nil ?_
                refine WK.seq ?_
                refine WK.seq ?_
                refine WK.region ?_
                refine WL.fieldO rfl rfl ?_
                refine WL.load1O rfl rfl (by first | exact .here | exact .there .here | exact .there (.there .here) | exact .there (.there (.there .here)) | exact .there (.there (.there (.there .here))) | exact .there (.there (.there (.there (.there .here))))) (show _ = some (str _) from rfl) ?_
                refine WL.lenS rfl rfl ?_
                refine WL.gtr rfl rfl rfl ?_
                refine WL.nil ?_
                -- cond
                refine WK.cond rfl (fun h6 => ?_) (fun h6 => ?_)
                · refine WK.seq ?_
                  refine WK.region ?_
                  refine WL.asC rfl ?_
                  refine WL.nil ?_
                  refine WK.ret ?_
                  refine WK.ret_code ?_
                  refine WK.ret_blk ?_
                  refine WK.ret_code ?_
                  refine WK.ret_lp ?_
                  refine WK.ret_blk ?_
                  refine WK.ret_code ?_
                  -- end
                  refine WK.end1 rfl (show _ = .int _ _ from rfl) ?_
                  rw [fin 8 (by simp only [chkOne, e1, h2, hany, h5, h6, Bool.false_eq_true, if_false, if_true]) (by decide)]
                · skip
                  have ck := chkOne_kind (h := ⟨g, n, ps, val⟩) (al := ag.length) e1 h2 hany h5 h6
                  replace ck : chkOne ⟨g, n, ps, val⟩ ag.length = if kindB n val ag.length then 5 else 0 := ck
                  have hcl' : cs.length = ag.length := hcl
                  refine WK.skip ?_
                  refine WK.seq ?_
                  refine WK.seq ?_
                  refine WK.mid (fun (_ : Unit) => [(109, .bool (kindB n val cs.length)), (3, .int .i64 (i : Nat)), (1, .pointer (some ⟨b1, 0, none⟩)), (4, .pointer (some ⟨b4, 0, none⟩))]) (fun _ => m) (fun _ => [[(b4, .cells (propV g n (.slice a4 ps.length k4) val (.slice a2 cs.length k2)).cells 42 (0, 0))], [(b1, .cells #[.slice a vs.length k] 24 (0, 0))]]) (fun _ => True) ?_ ?_
                  · skip
                    refine WK.region ?_
                    refine WL.fieldO rfl rfl ?_
                    refine WL.load1O rfl rfl (by first | exact .here | exact .there .here | exact .there (.there .here) | exact .there (.there (.there .here)) | exact .there (.there (.there (.there .here))) | exact .there (.there (.there (.there (.there .here))))) (show _ = some (.slice _ _ _) from rfl) ?_
                    refine WL.lenSl rfl rfl ?_
                    refine WL.gtr rfl rfl rfl ?_
                    refine WL.mvB rfl rfl ?_
                    refine WL.guardSplit rfl rfl (fun h1 => ?_) (fun h1 => ?_)
                    · skip
                      refine WL.fieldO rfl rfl ?_
                      refine WL.guard rfl h1 ?_
                      refine WL.load1O rfl rfl (by first | exact .here | exact .there .here | exact .there (.there .here) | exact .there (.there (.there .here)) | exact .there (.there (.there (.there .here))) | exact .there (.there (.there (.there (.there .here))))) (show _ = some (str _) from rfl) ?_
                      refine WL.guard rfl h1 ?_
                      refine WL.eqlS rfl rfl rfl ?_
                      refine WL.guard rfl h1 ?_
                      refine WL.fieldO rfl rfl ?_
                      refine WL.guard rfl h1 ?_
                      refine WL.load1O rfl rfl (by first | exact .here | exact .there .here | exact .there (.there .here) | exact .there (.there (.there .here)) | exact .there (.there (.there (.there .here))) | exact .there (.there (.there (.there (.there .here))))) (show _ = some (.slice _ _ _) from rfl) ?_
                      refine WL.guard rfl h1 ?_
                      refine WL.lenSl rfl rfl ?_
                      refine WL.guard rfl h1 ?_
                      refine WL.eql rfl rfl rfl ?_
                      refine WL.guard rfl h1 ?_
                      refine WL.neqB rfl rfl rfl ?_
                      refine WL.pickF rfl rfl h1 rfl ?_
                      refine WL.mvB rfl rfl ?_
                      refine WL.guardSplit rfl rfl (fun h2 => ?_) (fun h2 => ?_)
                      · skip
                        refine WL.fieldO rfl rfl ?_
                        refine WL.guard rfl h2 ?_
                        refine WL.load1O rfl rfl (by first | exact .here | exact .there .here | exact .there (.there .here) | exact .there (.there (.there .here)) | exact .there (.there (.there (.there .here))) | exact .there (.there (.there (.there (.there .here))))) (show _ = some (.slice _ _ _) from rfl) ?_
                        refine WL.guard rfl h2 ?_
                        refine WL.lenSl rfl rfl ?_
                        refine WL.guard rfl h2 ?_
                        refine WL.eql rfl rfl rfl ?_
                        refine WL.guard rfl h2 ?_
                        refine WL.mvB rfl rfl ?_
                        refine WL.guardSplit rfl rfl (fun h3 => ?_) (fun h3 => ?_)
                        · skip
                          refine WL.fieldO rfl rfl ?_
                          refine WL.guard rfl h3 ?_
                          refine WL.load1O rfl rfl (by first | exact .here | exact .there .here | exact .there (.there .here) | exact .there (.there (.there .here)) | exact .there (.there (.there (.there .here))) | exact .there (.there (.there (.there (.there .here))))) (show _ = some (str _) from rfl) ?_
                          refine WL.guard rfl h3 ?_
                          refine WL.neqS rfl rfl rfl ?_
                          refine WL.guard rfl h2 ?_
                          refine WL.pickT rfl rfl h3 rfl ?_
                          refine WL.pickF rfl rfl h2 rfl ?_
                          refine WL.nil ?_
                          refine WK.met () trivial ⟨congrArg Value.bool ?_, rfl, rfl, rfl, trivial⟩ rfl rfl
                          first | ((unfold kindB agentN; rw [h1, h2, h3]) <;> rfl) | ((unfold kindB agentN; rw [h1, h2]) <;> rfl) | ((unfold kindB agentN; rw [h1]) <;> rfl)
                        · skip
                          refine WL.guardSkip rfl h3 rfl ?_
                          refine WL.guardSkip rfl h3 rfl ?_
                          refine WL.guard rfl h2 ?_
                          refine WL.pickF rfl rfl h3 rfl ?_
                          refine WL.pickF rfl rfl h2 rfl ?_
                          refine WL.nil ?_
                          refine WK.met () trivial ⟨congrArg Value.bool ?_, rfl, rfl, rfl, trivial⟩ rfl rfl
                          first | ((unfold kindB agentN; rw [h1, h2, h3]) <;> rfl) | ((unfold kindB agentN; rw [h1, h2]) <;> rfl) | ((unfold kindB agentN; rw [h1]) <;> rfl)
                      · skip
                        refine WL.guardSkip rfl h2 rfl ?_
                        refine WL.guardSkip rfl h2 rfl ?_
                        refine WL.guardSkip rfl h2 rfl ?_
                        refine WL.guardSkip rfl h2 rfl ?_
                        refine WL.guardNone rfl rfl ?_
                        refine WL.guardNone rfl rfl ?_
                        refine WL.guardNone rfl rfl ?_
                        refine WL.guardSkip rfl h2 rfl ?_
                        refine WL.pickT rfl rfl h2 rfl ?_
                        refine WL.nil ?_
                        refine WK.met () trivial ⟨congrArg Value.bool ?_, rfl, rfl, rfl, trivial⟩ rfl rfl
                        first | ((unfold kindB agentN; rw [h1, h2, h3]) <;> rfl) | ((unfold kindB agentN; rw [h1, h2]) <;> rfl) | ((unfold kindB agentN; rw [h1]) <;> rfl)
                    · skip
                      refine WL.guardSkip rfl h1 rfl ?_
                      refine WL.guardSkip rfl h1 rfl ?_
                      refine WL.guardSkip rfl h1 rfl ?_
                      refine WL.guardSkip rfl h1 rfl ?_
                      refine WL.guardSkip rfl h1 rfl ?_
                      refine WL.guardSkip rfl h1 rfl ?_
                      refine WL.guardSkip rfl h1 rfl ?_
                      refine WL.pickT rfl rfl h1 rfl ?_
                      refine WL.mvB rfl rfl ?_
                      refine WL.guardSkip rfl rfl rfl ?_
                      refine WL.guardSkip rfl rfl rfl ?_
                      refine WL.guardSkip rfl rfl rfl ?_
                      refine WL.guardSkip rfl rfl rfl ?_
                      refine WL.guardSkip rfl rfl rfl ?_
                      refine WL.guardNone rfl rfl ?_
                      refine WL.guardNone rfl rfl ?_
                      refine WL.guardNone rfl rfl ?_
                      refine WL.guardSkip rfl rfl rfl ?_
                      refine WL.pickT rfl rfl rfl rfl ?_
                      refine WL.nil ?_
                      refine WK.met () trivial ⟨congrArg Value.bool ?_, rfl, rfl, rfl, trivial⟩ rfl rfl
                      first | ((unfold kindB agentN; rw [h1, h2, h3]) <;> rfl) | ((unfold kindB agentN; rw [h1, h2]) <;> rfl) | ((unfold kindB agentN; rw [h1]) <;> rfl)
                  rintro _ ρ _
                  -- cond
                  refine WK.cond rfl (fun h7 => ?_) (fun h7 => ?_)
                  · refine WK.seq ?_
                    refine WK.region ?_
                    refine WL.asC rfl ?_
                    refine WL.nil ?_
                    refine WK.ret ?_
                    refine WK.ret_code ?_
                    refine WK.ret_blk ?_
                    refine WK.ret_code ?_
                    refine WK.ret_lp ?_
                    refine WK.ret_blk ?_
                    refine WK.ret_code ?_
                    -- end
                    refine WK.end1 rfl (show _ = .int _ _ from rfl) ?_
                    rw [fin 5 (by rw [ck, ← hcl', h7]; rfl) (by decide)]
                  · skip
                    have c0 : chkOne ⟨g, n, ps, val⟩ ag.length = 0 := by rw [ck, ← hcl', h7]; rfl
                    replace hch : (if !decide (chkOne ⟨g, n, ps, val⟩ ag.length = 0) then chkOne ⟨g, n, ps, val⟩ ag.length else if !decide (agE (chkC d) ag = 0) then agE (chkC d) ag else chkPs (chkC d) (c.props.drop (i + 1))) = chkPs (chkC d) c.props := hch
                    rw [c0, if_neg (by simp)] at hch
                    refine WK.skip ?_
                    refine WK.seq ?_
                    refine WK.region ?_
                    refine WL.fieldO rfl rfl ?_
                    refine WL.load1O rfl rfl (by first | exact .here | exact .there .here | exact .there (.there .here) | exact .there (.there (.there .here)) | exact .there (.there (.there (.there .here))) | exact .there (.there (.there (.there (.there .here))))) (show _ = some (.slice _ _ _) from rfl) ?_
                    refine WL.lenSl rfl rfl ?_
                    refine WL.eql rfl rfl rfl ?_
                    refine WL.nil ?_
                    -- cond
                    refine WK.cond rfl (fun h8 => ?_) (fun h8 => ?_)
                    · have hl1 : cs.length = 1 := by simp at h8; omega
                      obtain ⟨a1, rfl⟩ : ∃ a1, ag = [a1] := List.length_eq_one_iff.1 (by rw [← hcl', hl1])
                      have hc0 : cs[0]? = some cs[0] := by simp [hl1]
                      have hrep := hce 0 cs[0] a1 hc0 rfl
                      obtain ⟨a3, l3, k3, hsh⟩ := hrep.slice
                      rw [hsh] at hc0 hrep
                      refine WK.seq ?_
                      refine WK.region ?_
                      refine WL.fieldO rfl rfl ?_
                      refine WL.load1O rfl rfl (by first | exact .here | exact .there .here | exact .there (.there .here) | exact .there (.there (.there .here)) | exact .there (.there (.there (.there .here))) | exact .there (.there (.there (.there (.there .here))))) (show _ = some (.slice _ _ _) from rfl) ?_
                      refine WL.indexE rfl rfl hsa' rfl rfl hc0 fun p116 hp116 => ?_
                      refine WL.loadA rfl rfl (hp116.rd (Le.refl _)) rfl ?_
                      refine WL.callm (rcheckC_pm d (hrep.mono fun b o h => .inl (hR b o h)) (hdd a1 (by simp))) rfl rfl rfl ?_
                      refine WL.asI rfl rfl ?_
                      refine WL.nil ?_
                      refine WK.seq ?_
                      refine WK.region ?_
                      refine WL.mvI rfl rfl ?_
                      refine WL.neq rfl rfl rfl ?_
                      refine WL.nil ?_
                      -- cond
                      refine WK.cond rfl (fun h9 => ?_) (fun h9 => ?_)
                      · refine WK.seq ?_
                        refine WK.region ?_
                        refine WL.mvI rfl rfl ?_
                        refine WL.asI rfl rfl ?_
                        refine WL.nil ?_
                        refine WK.ret ?_
                        refine WK.ret_blk ?_
                        refine WK.ret_code ?_
                        refine WK.ret_lp ?_
                        refine WK.ret_blk ?_
                        refine WK.ret_code ?_
                        -- end
                        refine WK.end1 rfl (show _ = .int _ _ from rfl) ?_
                        rw [← hch]
                        show _ = Value.int .i64 (if !decide (chkC d a1 = 0) then chkC d a1 else _)
                        rw [if_pos h9]
                      · skip
                        refine WK.skip ?_
                        refine WK.blk ?_
                        refine WK.region ?_
                        refine WL.mvI rfl rfl ?_
                        refine WL.add rfl rfl rfl (by omega) ?_
                        refine WL.asI rfl rfl ?_
                        refine WL.nil ?_
                        -- again
                        refine WK.drop (.drop .refl) ?_
                        refine WK.again (i + 1) ⟨by omega, ?_⟩ (by omega) ⟨rfl, rfl, trivial⟩ rfl rfl
                        rw [← hch]
                        show _ = (if !decide (chkC d a1 = 0) then chkC d a1 else _)
                        rw [if_neg (by rw [h9]; simp)]
                    · skip
                      have hl0 : cs.length = 0 := by
                        have h8' : ¬ ((cs.length : Int) = 1) := by simpa using h8
                        rw [kind_eq] at h7
                        have : ¬ (1 : Int) < cs.length := by
                          intro h1
                          have h0 : decide ((0 : Int) < cs.length) = true := by simp; omega
                          have h2 : decide ((cs.length : Int) = 1) = false := by simp; omega
                          rw [h0, h2] at h7
                          revert h7
                          cases decide (n = agentN) <;> simp
                        omega
                      obtain rfl : ag = [] := List.eq_nil_of_length_eq_zero (by rw [← hcl', hl0])
                      refine WK.skip ?_
                      refine WK.blk ?_
                      refine WK.region ?_
                      refine WL.mvI rfl rfl ?_
                      refine WL.add rfl rfl rfl (by omega) ?_
                      refine WL.asI rfl rfl ?_
                      refine WL.nil ?_
                      -- again
                      refine WK.drop (.drop .refl) ?_
                      exact WK.again (i + 1) ⟨by omega, by rw [← hch]; rfl⟩ (by omega) ⟨rfl, rfl, trivial⟩ rfl rfl
      · skip
        have hk2 : i = c.props.length := by simp at h; omega
        refine WK.exit ?_
        refine WK.exit_code ?_
        refine WK.exit_lp ?_
        refine WK.exit_hit ?_
        refine WK.seq ?_
        refine WK.region ?_
        refine WL.asC rfl ?_
        refine WL.nil ?_
        refine WK.ret ?_
        -- end
        refine WK.end1 rfl (show _ = .int _ _ from rfl) ?_
        rw [← hch, hk2, List.drop_length]; rfl
end Go.SL
