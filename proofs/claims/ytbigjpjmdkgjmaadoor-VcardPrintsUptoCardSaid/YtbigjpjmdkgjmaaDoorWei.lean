/- The law's weighing of a card: it ends, with some answer. -/
import Derived.Test.YtbigjpjmdkgjmaaDoorCard
namespace Go.SL
open Go Go.Proofs
set_option linter.unusedVariables false
set_option linter.unusedSimpArgs false

theorem weigh_tr : ∀ (d : Nat) {m : Imm} {v : Value} {c : Crd} {room : Int}, d ≤ 100 → RepC (fun b o => m b = some o) d v c → -20 ≤ room → room ≤ 6000 →
    Tr Tryd.prog 10 [v, .int .i64 room, .int .i64 (d : Nat)] m [] fun u m' own' => m' = m ∧ own' = [] ∧ ∃ r b, u = .tuple #[.int .i64 r, .bool b] ∧ -20 ≤ r ∧ r ≤ 6000
  | 0, m, v, c, room, _, hc, hr1, hr2 => by
    obtain ⟨a, l, k, rfl⟩ := hc.slice
    refine Tr.of Tryd.func10 Tryd.ntmps10 rfl rfl fun w => ?_
    refine WK.seq ?_
    refine WK.region ?_
    refine WL.box rfl rfl fun b3 => ?_
    refine WL.asC rfl ?_
    refine WL.asC rfl ?_
    refine WL.nil ?_
    refine WK.seq ?_
    refine WK.seq ?_
    refine WK.region ?_
    refine WL.mvI rfl rfl ?_
    refine WL.eql rfl rfl rfl ?_
    refine WL.mvB rfl rfl ?_
    refine WL.guardSkip rfl rfl rfl ?_
    refine WL.guardSkip rfl rfl rfl ?_
    refine WL.guardSkip rfl rfl rfl ?_
    refine WL.guardSkip rfl rfl rfl ?_
    refine WL.pickT rfl rfl rfl rfl ?_
    refine WL.nil ?_
    refine WK.cond_t rfl ?_
    refine WK.seq ?_
    refine WK.region ?_
    refine WL.asC rfl ?_
    refine WL.asC rfl ?_
    refine WL.nil ?_
    refine WK.ret ?_
    refine WK.ret_code ?_
    -- end
    refine WK.drop (.drop .refl) ?_
    refine WK.end2 rfl (show _ = .int _ _ from rfl) (show _ = .bool _ from rfl) ?_
    exact ⟨rfl, rfl, 0, true, rfl, by omega, by omega⟩
  | d + 1, m, v, c, room, hd, hc, hr1, hr2 => by
    have IH : ∀ {v : Value} {c : Crd} {room di : Int}, di = (d : Int) → RepC (fun b o => m b = some o) d v c → -20 ≤ room → room ≤ 6000 →
      Tr Tryd.prog 10 [v, .int .i64 room, .int .i64 di] m [] fun u m' own' => m' = m ∧ own' = [] ∧ ∃ r b, u = .tuple #[.int .i64 r, .bool b] ∧ -20 ≤ r ∧ r ≤ 6000 := fun h hc h1 h2 => h ▸ weigh_tr d (by omega) hc h1 h2
    obtain ⟨pv, vs, rfl, hs', hlen, hbig, hel⟩ := hc
    obtain ⟨a, k, hpv, _⟩ := hs'.shape
    subst hpv
    replace hbig : c.props.length ≤ 1048576 := hbig
    refine Tr.of Tryd.func10 Tryd.ntmps10 rfl rfl fun w => ?_
    refine WK.seq ?_
    refine WK.region ?_
    refine WL.box rfl rfl fun b3 => ?_
    refine WL.asC rfl ?_
    refine WL.asC rfl ?_
    refine WL.nil ?_
    refine WK.seq ?_
    refine WK.seq ?_
    refine WK.mid (G := Bool) (fun g => [(19, .bool g), (1, .int .i64 room), (2, .int .i64 ((d + 1 : Nat) : Int)), (3, .pointer (some ⟨b3, 0, none⟩))]) (fun _ => m) (fun _ => [[(b3, .cells #[.slice a vs.length k] 24 (0, 0))]]) (fun _ => True) ?_ ?_
    · skip
      refine WK.region ?_
      refine WL.mvI rfl rfl ?_
      refine WL.eql rfl rfl rfl ?_
      refine WL.mvB rfl rfl ?_
      refine WL.guardSplit rfl rfl (fun h1 => ?_) (fun h1 => ?_)
      · skip
        refine WL.fieldO rfl rfl ?_
        refine WL.guard rfl h1 ?_
        refine WL.load1O rfl rfl (by first | exact .here | exact .there .here | exact .there (.there .here) | exact .there (.there (.there .here)) | exact .there (.there (.there (.there .here))) | exact .there (.there (.there (.there (.there .here))))) (show _ = some (.slice _ _ _) from rfl) ?_
        refine WL.guard rfl h1 ?_
        refine WL.lenSl rfl rfl ?_
        refine WL.guard rfl h1 ?_
        refine WL.gtr rfl rfl rfl ?_
        refine WL.pickF rfl rfl h1 rfl ?_
        refine WL.nil ?_
        exact WK.met _ trivial ⟨rfl, rfl, rfl, rfl, trivial⟩ rfl rfl
      · skip
        refine WL.guardSkip rfl h1 rfl ?_
        refine WL.guardSkip rfl h1 rfl ?_
        refine WL.guardSkip rfl h1 rfl ?_
        refine WL.pickT rfl rfl h1 rfl ?_
        refine WL.nil ?_
        exact WK.met _ trivial ⟨rfl, rfl, rfl, rfl, trivial⟩ rfl rfl
    rintro g ρ _
    -- cond
    refine WK.cond rfl (fun h1 => ?_) (fun h1 => ?_)
    · refine WK.seq ?_
      refine WK.region ?_
      refine WL.asC rfl ?_
      refine WL.asC rfl ?_
      refine WL.nil ?_
      refine WK.ret ?_
      refine WK.ret_code ?_
      -- end
      refine WK.drop (.drop .refl) ?_
      refine WK.end2 rfl (show _ = .int _ _ from rfl) (show _ = .bool _ from rfl) ?_
      exact ⟨rfl, rfl, 0, true, rfl, by omega, by omega⟩
    · skip
      refine WK.skip ?_
      refine WK.seq ?_
      refine WK.seq ?_
      refine WK.region ?_
      refine WL.asC rfl ?_
      refine WL.nil ?_
      refine WK.block ?_
      -- loop
      refine WK.loop (G := Nat × Int) (fun g => [(8, .int .i64 (g.1 : Nat)), (1, .int .i64 g.2), (2, .int .i64 ((d + 1 : Nat) : Int)), (3, .pointer (some ⟨b3, 0, none⟩))]) (fun _ => m) (fun _ => [[(b3, .cells #[.slice a vs.length k] 24 (0, 0))]])
        (fun g => g.1 ≤ vs.length ∧ -20 ≤ g.2 ∧ g.2 ≤ 6000) (fun g => vs.length - g.1) (0, room) ⟨by simp, hr1, hr2⟩ ⟨rfl, rfl, rfl, rfl, trivial⟩ rfl rfl ?_
      rintro ⟨i, rm⟩ ρ ⟨hi, hm1, hm2⟩
      replace hi : i ≤ vs.length := hi
      replace hm1 : -20 ≤ rm := hm1
      replace hm2 : rm ≤ 6000 := hm2
      refine WK.seq ?_
      refine WK.seq ?_
      refine WK.region ?_
      refine WL.mvI rfl rfl ?_
      refine WL.fieldO rfl rfl ?_
      refine WL.load1O rfl rfl (by first | exact .here | exact .there .here | exact .there (.there .here) | exact .there (.there (.there .here)) | exact .there (.there (.there (.there .here))) | exact .there (.there (.there (.there (.there .here))))) (show _ = some (.slice _ _ _) from rfl) ?_
      refine WL.lenSl rfl rfl ?_
      refine WL.lss rfl rfl rfl ?_
      refine WL.nil ?_
      -- cond
      refine WK.cond rfl (fun h => ?_) (fun h => ?_)
      · have hlt : i < vs.length := by simpa using h
        have hlt2 : i < c.props.length := by omega
        have hv : vs[i]? = some vs[i] := by simp [hlt]
        obtain ⟨h0, sp, sa, cs, hx, hsp, hsa', hcl, hcb, hce⟩ := hel i vs[i] c.props[i] hv (by simp [hlt2])
        obtain ⟨a2, k2, hsav, _⟩ := hsa'.shape
        subst hsav
        obtain ⟨a4, k4, hspv, _⟩ := hsp.shape
        subst hspv
        rw [hx] at hv
        have hfit := hs'.one hv
        replace hcb : (c.props[i]).2.length ≤ 1048576 := hcb
        have hvl : (c.props[i]).1.v.length ≤ 1048576 := h0.2.2.1
        refine WK.skip ?_
        refine WK.seq ?_
        refine WK.block ?_
        refine WK.seq ?_
        refine WK.region ?_
        refine WL.fieldO rfl rfl ?_
        refine WL.load1O rfl rfl (by first | exact .here | exact .there .here | exact .there (.there .here) | exact .there (.there (.there .here)) | exact .there (.there (.there (.there .here))) | exact .there (.there (.there (.there (.there .here))))) (show _ = some (.slice _ _ _) from rfl) ?_
        refine WL.mvI rfl rfl ?_
        refine WL.indexE rfl rfl hs' rfl rfl hv fun p30 hp30 => ?_
        refine WL.loadA rfl rfl (hp30.rd (Le.refl _)) rfl ?_
        refine WL.alloc rfl fun b9 => ?_
        refine WL.storeAO rfl rfl rfl (by first | exact .here | exact .there .here | exact .there (.there .here) | exact .there (.there (.there .here)) | exact .there (.there (.there (.there .here))) | exact .there (.there (.there (.there (.there .here))))) (by rfl) (by rfl) hfit.2 ?_
        refine WL.nil ?_
        refine WK.seq ?_
        refine WK.seq ?_
        refine WK.mid (G := Unit) (fun g => [(48, .bool (decide (20 < (((c.props[i]).1.ps.map parV).length : Int)) || decide (4 < (cs.length : Int)) || decide (((c.props[i]).1.v.length : Int) > rm))), (8, .int .i64 (i : Nat)), (1, .int .i64 rm), (2, .int .i64 ((d + 1 : Nat) : Int)), (3, .pointer (some ⟨b3, 0, none⟩)), (9, .pointer (some ⟨b9, 0, none⟩))]) (fun _ => m) (fun _ => [[(b9, .cells (propV (c.props[i]).1.g (c.props[i]).1.n (.slice a4 ((c.props[i]).1.ps.map parV).length k4) (c.props[i]).1.v (.slice a2 cs.length k2)).cells 42 (0, 0))], [(b3, .cells #[.slice a vs.length k] 24 (0, 0))]]) (fun _ => True) ?_ ?_
        · skip
          refine WK.region ?_
          refine WL.fieldO rfl rfl ?_
          refine WL.load1O rfl rfl (by first | exact .here | exact .there .here | exact .there (.there .here) | exact .there (.there (.there .here)) | exact .there (.there (.there (.there .here))) | exact .there (.there (.there (.there (.there .here))))) (show _ = some (.slice _ _ _) from rfl) ?_
          refine WL.lenSl rfl rfl ?_
          refine WL.gtr rfl rfl rfl ?_
          refine WL.mvB rfl rfl ?_
          refine WL.guardSplit rfl rfl (fun h1 => ?_) (fun h1 => ?_)
          · skip
            refine WL.fieldO rfl rfl ?_
            refine WL.guard rfl h1 ?_
            refine WL.load1O rfl rfl (by first | exact .here | exact .there .here | exact .there (.there .here) | exact .there (.there (.there .here)) | exact .there (.there (.there (.there .here))) | exact .there (.there (.there (.there (.there .here))))) (show _ = some (.slice _ _ _) from rfl) ?_
            refine WL.guard rfl h1 ?_
            refine WL.lenSl rfl rfl ?_
            refine WL.guard rfl h1 ?_
            refine WL.gtr rfl rfl rfl ?_
            refine WL.pickF rfl rfl h1 rfl ?_
            refine WL.mvB rfl rfl ?_
            refine WL.guardSplit rfl rfl (fun h2 => ?_) (fun h2 => ?_)
            · skip
              refine WL.fieldO rfl rfl ?_
              refine WL.guard rfl h2 ?_
              refine WL.load1O rfl rfl (by first | exact .here | exact .there .here | exact .there (.there .here) | exact .there (.there (.there .here)) | exact .there (.there (.there (.there .here))) | exact .there (.there (.there (.there (.there .here))))) (show _ = some (str _) from rfl) ?_
              refine WL.guard rfl h2 ?_
              refine WL.lenS rfl rfl ?_
              refine WL.guard rfl h2 ?_
              refine WL.mvI rfl rfl ?_
              refine WL.guard rfl h2 ?_
              refine WL.gtr rfl rfl rfl ?_
              refine WL.pickF rfl rfl h2 rfl ?_
              refine WL.nil ?_
              refine WK.met () trivial ⟨congrArg Value.bool ?_, rfl, rfl, rfl, rfl, rfl, trivial⟩ rfl rfl
              first | (simp only [h1, h2, Bool.not_true, Bool.not_false, Bool.true_or, Bool.false_or]; done) | (simp only [h1, h2, Bool.not_true, Bool.not_false, Bool.true_or, Bool.false_or]; rfl) | (simp only [h1, Bool.not_true, Bool.not_false, Bool.true_or, Bool.false_or])
            · skip
              refine WL.guardSkip rfl h2 rfl ?_
              refine WL.guardSkip rfl h2 rfl ?_
              refine WL.guardSkip rfl h2 rfl ?_
              refine WL.guardSkip rfl h2 rfl ?_
              refine WL.pickT rfl rfl h2 rfl ?_
              refine WL.nil ?_
              refine WK.met () trivial ⟨congrArg Value.bool ?_, rfl, rfl, rfl, rfl, rfl, trivial⟩ rfl rfl
              first | (simp only [h1, h2, Bool.not_true, Bool.not_false, Bool.true_or, Bool.false_or]; done) | (simp only [h1, h2, Bool.not_true, Bool.not_false, Bool.true_or, Bool.false_or]; rfl) | (simp only [h1, Bool.not_true, Bool.not_false, Bool.true_or, Bool.false_or])
          · skip
            refine WL.guardSkip rfl h1 rfl ?_
            refine WL.guardSkip rfl h1 rfl ?_
            refine WL.guardSkip rfl h1 rfl ?_
            refine WL.pickT rfl rfl h1 rfl ?_
            refine WL.mvB rfl rfl ?_
            refine WL.guardSkip rfl rfl rfl ?_
            refine WL.guardSkip rfl rfl rfl ?_
            refine WL.guardSkip rfl rfl rfl ?_
            refine WL.guardSkip rfl rfl rfl ?_
            refine WL.guardSkip rfl rfl rfl ?_
            refine WL.pickT rfl rfl rfl rfl ?_
            refine WL.nil ?_
            refine WK.met () trivial ⟨congrArg Value.bool ?_, rfl, rfl, rfl, rfl, rfl, trivial⟩ rfl rfl
            first | (simp only [h1, h2, Bool.not_true, Bool.not_false, Bool.true_or, Bool.false_or]; done) | (simp only [h1, h2, Bool.not_true, Bool.not_false, Bool.true_or, Bool.false_or]; rfl) | (simp only [h1, Bool.not_true, Bool.not_false, Bool.true_or, Bool.false_or])
        rintro _ ρ _
        -- cond
        refine WK.cond rfl (fun h2 => ?_) (fun h2 => ?_)
        · refine WK.seq ?_
          refine WK.region ?_
          refine WL.asC rfl ?_
          refine WL.asC rfl ?_
          refine WL.nil ?_
          refine WK.ret ?_
          refine WK.ret_code ?_
          refine WK.ret_blk ?_
          refine WK.ret_code ?_
          refine WK.ret_lp ?_
          refine WK.ret_blk ?_
          refine WK.ret_code ?_
          -- end
          refine WK.drop (.drop (.drop .refl)) ?_
          refine WK.end2 rfl (show _ = .int _ _ from rfl) (show _ = .bool _ from rfl) ?_
          exact ⟨rfl, rfl, 0, true, rfl, by omega, by omega⟩
        · skip
          have hfit3 : ((c.props[i]).1.v.length : Int) ≤ rm := by simp at h2; omega
          refine WK.skip ?_
          refine WK.seq ?_
          refine WK.region ?_
          refine WL.mvI rfl rfl ?_
          refine WL.fieldO rfl rfl ?_
          refine WL.load1O rfl rfl (by first | exact .here | exact .there .here | exact .there (.there .here) | exact .there (.there (.there .here)) | exact .there (.there (.there (.there .here))) | exact .there (.there (.there (.there (.there .here))))) (show _ = some (str _) from rfl) ?_
          refine WL.lenS rfl rfl ?_
          refine WL.sub rfl rfl rfl (by omega) ?_
          refine WL.sub rfl rfl rfl (by omega) ?_
          refine WL.asI rfl rfl ?_
          refine WL.nil ?_
          refine WK.seq ?_
          refine WK.seq ?_
          refine WK.region ?_
          refine WL.asC rfl ?_
          refine WL.nil ?_
          refine WK.block ?_
          -- loop
          refine WK.loop (G := Nat × Int) (fun g => [(10, .int .i64 (g.1 : Nat)), (1, .int .i64 g.2), (8, .int .i64 (i : Nat)), (2, .int .i64 ((d + 1 : Nat) : Int)), (3, .pointer (some ⟨b3, 0, none⟩)), (9, .pointer (some ⟨b9, 0, none⟩))]) (fun _ => m) (fun _ => [[(b9, .cells (propV (c.props[i]).1.g (c.props[i]).1.n (.slice a4 ((c.props[i]).1.ps.map parV).length k4) (c.props[i]).1.v (.slice a2 cs.length k2)).cells 42 (0, 0))], [(b3, .cells #[.slice a vs.length k] 24 (0, 0))]])
            (fun g => g.1 ≤ cs.length ∧ -20 ≤ g.2 ∧ g.2 ≤ 6000) (fun g => cs.length - g.1) (0, _) ⟨by simp, ?_, ?_⟩ ⟨rfl, rfl, rfl, rfl, rfl, rfl, trivial⟩ rfl rfl ?_
          · show -20 ≤ rm - _ - 20; omega
          · show rm - _ - 20 ≤ 6000; omega
          rintro ⟨j, rm2⟩ ρ ⟨hj, hm3, hm4⟩
          replace hj : j ≤ cs.length := hj
          replace hm3 : -20 ≤ rm2 := hm3
          replace hm4 : rm2 ≤ 6000 := hm4
          refine WK.seq ?_
          refine WK.seq ?_
          refine WK.region ?_
          refine WL.mvI rfl rfl ?_
          refine WL.fieldO rfl rfl ?_
          refine WL.load1O rfl rfl (by first | exact .here | exact .there .here | exact .there (.there .here) | exact .there (.there (.there .here)) | exact .there (.there (.there (.there .here))) | exact .there (.there (.there (.there (.there .here))))) (show _ = some (.slice _ _ _) from rfl) ?_
          refine WL.lenSl rfl rfl ?_
          refine WL.lss rfl rfl rfl ?_
          refine WL.nil ?_
          -- cond
          refine WK.cond rfl (fun h3 => ?_) (fun h3 => ?_)
          · have hjt : j < cs.length := by simpa using h3
            have hjt2 : j < (c.props[i]).2.length := by omega
            have hcv : cs[j]? = some cs[j] := by simp [hjt]
            have hrep := hce j cs[j] (c.props[i]).2[j] hcv (by simp [hjt2])
            obtain ⟨a5, l5, k5, hsh⟩ := hrep.slice
            rw [hsh] at hcv hrep
            refine WK.skip ?_
            refine WK.seq ?_
            refine WK.block ?_
            refine WK.seq ?_
            refine WK.region ?_
            refine WL.asC rfl ?_
            refine WL.nil ?_
            refine WK.seq ?_
            refine WK.region ?_
            refine WL.fieldO rfl rfl ?_
            refine WL.load1O rfl rfl (by first | exact .here | exact .there .here | exact .there (.there .here) | exact .there (.there (.there .here)) | exact .there (.there (.there (.there .here))) | exact .there (.there (.there (.there (.there .here))))) (show _ = some (.slice _ _ _) from rfl) ?_
            refine WL.mvI rfl rfl ?_
            refine WL.indexE rfl rfl hsa' rfl rfl hcv fun p66 hp66 => ?_
            refine WL.loadA rfl rfl (hp66.rd (Le.refl _)) rfl ?_
            refine WL.mvI rfl rfl ?_
            refine WL.mvI rfl rfl ?_
            refine WL.sub rfl rfl rfl (by omega) ?_
            refine WL.call (IH (by omega) hrep hm3 hm4) rfl rfl rfl .none ?_
            rintro u m1 back hle ⟨hm1', hb1, r1, g1, hu1, hr3, hr4⟩; subst m1; subst hb1; subst hu1
            refine WL.mvT rfl rfl ?_
            refine WL.extract rfl rfl rfl ?_
            refine WL.extract rfl rfl rfl ?_
            refine WL.asI rfl rfl ?_
            refine WL.asB rfl rfl ?_
            refine WL.nil ?_
            refine WK.seq ?_
            refine WK.region ?_
            refine WL.mvB rfl rfl ?_
            refine WL.nil ?_
            -- cond
            refine WK.cond rfl (fun h4 => ?_) (fun h4 => ?_)
            · refine WK.seq ?_
              refine WK.region ?_
              refine WL.asC rfl ?_
              refine WL.asC rfl ?_
              refine WL.nil ?_
              refine WK.ret ?_
              refine WK.ret_blk ?_
              refine WK.ret_code ?_
              refine WK.ret_lp ?_
              refine WK.ret_blk ?_
              refine WK.ret_code ?_
              refine WK.ret_blk ?_
              refine WK.ret_code ?_
              refine WK.ret_lp ?_
              refine WK.ret_blk ?_
              refine WK.ret_code ?_
              -- end
              refine WK.drop (.drop (.drop .refl)) ?_
              refine WK.end2 rfl (show _ = .int _ _ from rfl) (show _ = .bool _ from rfl) ?_
              exact ⟨rfl, rfl, 0, true, rfl, by omega, by omega⟩
            · skip
              refine WK.skip ?_
              refine WK.blk ?_
              refine WK.region ?_
              refine WL.mvI rfl rfl ?_
              refine WL.add rfl rfl rfl (by omega) ?_
              refine WL.asI rfl rfl ?_
              refine WL.nil ?_
              -- again
              exact WK.again (j + 1, r1) ⟨by show j + 1 ≤ _; omega, hr3, hr4⟩ (by show cs.length - (j + 1) < cs.length - j; omega) ⟨rfl, rfl, rfl, rfl, rfl, rfl, trivial⟩ rfl rfl
          · skip
            refine WK.exit ?_
            refine WK.exit_code ?_
            refine WK.exit_lp ?_
            refine WK.exit_hit ?_
            refine WK.seq ?_
            refine WK.region ?_
            refine WL.mvI rfl rfl ?_
            refine WL.lss rfl rfl rfl ?_
            refine WL.nil ?_
            -- cond
            refine WK.cond rfl (fun h4 => ?_) (fun h4 => ?_)
            · refine WK.seq ?_
              refine WK.region ?_
              refine WL.asC rfl ?_
              refine WL.asC rfl ?_
              refine WL.nil ?_
              refine WK.ret ?_
              refine WK.ret_blk ?_
              refine WK.ret_code ?_
              refine WK.ret_lp ?_
              refine WK.ret_blk ?_
              refine WK.ret_code ?_
              -- end
              refine WK.drop (.drop (.drop .refl)) ?_
              refine WK.end2 rfl (show _ = .int _ _ from rfl) (show _ = .bool _ from rfl) ?_
              exact ⟨rfl, rfl, 0, true, rfl, by omega, by omega⟩
            · skip
              refine WK.skip ?_
              refine WK.blk ?_
              refine WK.region ?_
              refine WL.mvI rfl rfl ?_
              refine WL.add rfl rfl rfl (by omega) ?_
              refine WL.asI rfl rfl ?_
              refine WL.nil ?_
              -- again
              refine WK.drop (.drop .refl) ?_
              exact WK.again (i + 1, rm2) ⟨by show i + 1 ≤ _; omega, hm3, hm4⟩ (by show vs.length - (i + 1) < vs.length - i; omega) ⟨rfl, rfl, rfl, rfl, trivial⟩ rfl rfl
      · skip
        refine WK.exit ?_
        refine WK.exit_code ?_
        refine WK.exit_lp ?_
        refine WK.exit_hit ?_
        refine WK.seq ?_
        refine WK.region ?_
        refine WL.mvI rfl rfl ?_
        refine WL.asI rfl rfl ?_
        refine WL.asC rfl ?_
        refine WL.nil ?_
        refine WK.ret ?_
        -- end
        refine WK.drop (.drop .refl) ?_
        refine WK.end2 rfl (show _ = .int _ _ from rfl) (show _ = .bool _ from rfl) ?_
        exact ⟨rfl, rfl, _, _, rfl, hm1, hm2⟩
end Go.SL
