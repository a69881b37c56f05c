/- The small functions of package vcard and of the reference for chapter 10: contracts. -/
import Derived.Test.YtbigjpjmdkgjmaaDoorLin
import Derived.Test.YtbigjpjmdkgjmaaDoorProp3
namespace Go.SL
open Go Go.Proofs
set_option linter.unusedVariables false
set_option linter.unusedSimpArgs false

def plainB (s : List UInt8) : Bool := s.all fun c => decide ((32 : Int) ≤ c.toNat) && decide ((c.toNat : Int) ≤ 126)
def wayB (s : List UInt8) : Bool := decide (s = [81, 85, 79, 84, 69, 68, 45, 80, 82, 73, 78, 84, 65, 66, 76, 69]) || decide (s = [66, 65, 83, 69, 54, 52]) || decide (s = [56, 66, 73, 84]) || decide (s = [55, 66, 73, 84])
def frameB (s : List UInt8) : Bool := decide (s = [66, 69, 71, 73, 78]) || decide (s = [69, 78, 68]) || decide (s = [86, 69, 82, 83, 73, 79, 78])
def saysB (p : Par) : Bool := decide (p.1 = [69, 78, 67, 79, 68, 73, 78, 71]) || decide (p.1 = [67, 72, 65, 82, 83, 69, 84]) || (decide (p.1 = []) && wayB p.2)
def capC (c : UInt8) : UInt8 := if decide ((97 : Int) ≤ c.toNat) && decide ((c.toNat : Int) ≤ 122) then UInt8.ofNat (c.toNat - 32) else c
def oddB (p : Par) : Bool := saysB p || (decide (p.1 = []) && !decide (p.2.map capC = p.2))

theorem plainF_pu (c : UInt8) : Pu Tryd.prog 62 [byt c] (.bool (!(decide ((32 : Int) ≤ c.toNat) && decide ((c.toNat : Int) ≤ 126)))) := by
  refine Pu.of Tryd.func62 Tryd.ntmps62 rfl rfl fun w => ?_
  refine WK.seq ?_
  refine WK.region ?_
  refine WL.asC rfl ?_
  refine WL.nil ?_
  refine WK.seq ?_
  refine WK.region ?_
  refine WL.mvI rfl rfl ?_
  refine WL.lss rfl rfl rfl ?_
  refine WL.mvB rfl rfl ?_
  refine WL.guardSplit rfl rfl (fun h1 => ?_) (fun h1 => ?_)
  · skip
    refine WL.mvI rfl rfl ?_
    refine WL.guard rfl h1 ?_
    refine WL.gtr rfl rfl rfl ?_
    refine WL.pickF rfl rfl h1 rfl ?_
    refine WL.asB rfl rfl ?_
    refine WL.nil ?_
    refine WK.ret ?_
    refine WK.end1 rfl (show _ = .bool _ from rfl) ?_
    first | (have k1 : (32 : Int) ≤ c.toNat := (by simp at h1; omega); rw [decide_eq_true k1, Bool.true_and, ← dec_not_lt, Bool.not_not]) | (simp_all <;> omega)
  · skip
    refine WL.guardSkip rfl h1 rfl ?_
    refine WL.pickT rfl rfl h1 rfl ?_
    refine WL.asB rfl rfl ?_
    refine WL.nil ?_
    refine WK.ret ?_
    refine WK.end1 rfl (show _ = .bool _ from rfl) ?_
    first | (have k1 : (32 : Int) ≤ c.toNat := (by simp at h1; omega); rw [decide_eq_true k1, Bool.true_and, ← dec_not_lt, Bool.not_not]) | (simp_all <;> omega)
theorem vplain_pu (s : List UInt8) (hs : s.length ≤ 1000000000) : Pu Tryd.prog 37 [str s] (.bool (plainB s)) := by
  refine Pu.of Tryd.func37 Tryd.ntmps37 rfl rfl fun w => ?_
  refine WK.seq ?_
  refine WK.region ?_
  refine WL.asC rfl ?_
  refine WL.nil ?_
  refine WK.seq ?_
  refine WK.region ?_
  refine WL.mvS rfl rfl ?_
  refine WL.toBytes rfl rfl fun v4 blk4 hO4 => ?_
  obtain ⟨a4, c4, hv4, hc4⟩ := hO4.shape; rw [List.length_map] at hv4 hc4; subst hv4
  refine WL.callm (containsFuncB (hO4.sl fun p hp => .inr (At.mem .here p hp)) (fun c => !(decide ((32 : Int) ≤ c.toNat) && decide ((c.toNat : Int) ≤ 126))) _ #[] (fun c => plainF_pu c) hs) rfl rfl rfl ?_
  refine WL.not rfl rfl ?_
  refine WL.asB rfl rfl ?_
  refine WL.nil ?_
  refine WK.ret ?_
  -- end
  refine WK.end1 rfl (show _ = .bool _ from rfl) ?_
  rw [any_not_all]; rfl
theorem rplain10_pu (s : List UInt8) (hs : s.length ≤ 1000000000) : Pu Tryd.prog 25 [str s] (.bool (plainB s)) := by
  refine Pu.of Tryd.func25 Tryd.ntmps25 rfl rfl fun w => ?_
  refine WK.seq ?_
  refine WK.region ?_
  refine WL.asC rfl ?_
  refine WL.nil ?_
  refine WK.seq ?_
  refine WK.seq ?_
  refine WK.region ?_
  refine WL.asC rfl ?_
  refine WL.nil ?_
  refine WK.block ?_
  -- loop
  refine WK.loop (fun (k : Nat) => [(3, .int .i64 (k : Nat)), (0, str s)]) (fun _ _ => none) (fun _ => []) (fun k => k ≤ s.length ∧ plainB (s.take k) = true) (fun k => s.length - k) 0 ⟨by omega, by simp [plainB]⟩ ⟨rfl, rfl, trivial⟩ rfl rfl ?_
  rintro k ρ ⟨hk, hall⟩
  refine WK.seq ?_
  refine WK.seq ?_
  refine WK.region ?_
  refine WL.mvI rfl rfl ?_
  refine WL.mvS rfl rfl ?_
  refine WL.lenS rfl rfl ?_
  refine WL.lss rfl rfl rfl ?_
  refine WL.nil ?_
  -- cond
  refine WK.cond rfl (fun h => ?_) (fun h => ?_)
  · have hlt : k < s.length := by simpa using h
    have hc : s[k]? = some s[k] := by simp [hlt]
    refine WK.skip ?_
    refine WK.seq ?_
    refine WK.block ?_
    refine WK.seq ?_
    refine WK.region ?_
    refine WL.mvS rfl rfl ?_
    refine WL.mvI rfl rfl ?_
    refine WL.indexS rfl rfl rfl rfl (by assumption) ?_
    refine WL.lss rfl rfl rfl ?_
    refine WL.mvB rfl rfl ?_
    refine WL.guardSplit rfl rfl (fun h1 => ?_) (fun h1 => ?_)
    · skip
      refine WL.mvS rfl rfl ?_
      refine WL.guard rfl h1 ?_
      refine WL.mvI rfl rfl ?_
      refine WL.guard rfl h1 ?_
      refine WL.indexS rfl rfl rfl rfl (by assumption) ?_
      refine WL.guard rfl h1 ?_
      refine WL.gtr rfl rfl rfl ?_
      refine WL.pickF rfl rfl h1 rfl ?_
      refine WL.nil ?_
      refine WK.cond rfl (fun h2 => ?_) (fun h2 => ?_)
      · skip
        refine WK.seq ?_
        refine WK.region ?_
        refine WL.asC rfl ?_
        refine WL.nil ?_
        refine WK.ret ?_
        refine WK.ret_blk ?_
        refine WK.ret_code ?_
        refine WK.ret_lp ?_
        refine WK.ret_blk ?_
        refine WK.ret_code ?_
        refine WK.end1 rfl (show _ = .bool _ from rfl) ?_
        exact congrArg Value.bool (all_false hlt (by simp_all <;> omega)).symm
      · skip
        refine WK.skip ?_
        refine WK.blk ?_
        refine WK.region ?_
        refine WL.mvI rfl rfl ?_
        refine WL.add rfl rfl rfl (by omega) ?_
        refine WL.asI rfl rfl ?_
        refine WL.nil ?_
        exact WK.again (k + 1) ⟨by omega, all_take_succ hall hlt (by simp_all <;> omega)⟩ (by omega) ⟨rfl, rfl, trivial⟩ rfl rfl
    · skip
      refine WL.guardSkip rfl h1 rfl ?_
      refine WL.guardSkip rfl h1 rfl ?_
      refine WL.guardSkip rfl h1 rfl ?_
      refine WL.pickT rfl rfl h1 rfl ?_
      refine WL.nil ?_
      refine WK.cond_t rfl ?_
      refine WK.seq ?_
      refine WK.region ?_
      refine WL.asC rfl ?_
      refine WL.nil ?_
      refine WK.ret ?_
      refine WK.ret_blk ?_
      refine WK.ret_code ?_
      refine WK.ret_lp ?_
      refine WK.ret_blk ?_
      refine WK.ret_code ?_
      refine WK.end1 rfl (show _ = .bool _ from rfl) ?_
      exact congrArg Value.bool (all_false hlt (by simp_all <;> omega)).symm
  · skip
    refine WK.exit ?_
    refine WK.exit_code ?_
    refine WK.exit_lp ?_
    refine WK.exit_hit ?_
    refine WK.seq ?_
    refine WK.region ?_
    refine WL.asC rfl ?_
    refine WL.nil ?_
    refine WK.ret ?_
    -- end
    refine WK.end1 rfl (show _ = .bool _ from rfl) ?_
    have hk2 : k = s.length := by simp at h; omega
    subst hk2
    rw [List.take_length] at hall
    rw [hall]
theorem written_pu (s : List UInt8) : Pu Tryd.prog 84 [str s] (.bool (wayB s)) := by
  refine Pu.of Tryd.func84 Tryd.ntmps84 rfl rfl fun w => ?_
  refine WK.seq ?_
  refine WK.region ?_
  refine WL.asC rfl ?_
  refine WL.nil ?_
  refine WK.seq ?_
  refine WK.region ?_
  refine WL.mvS rfl rfl ?_
  refine WL.eqlS rfl rfl rfl ?_
  refine WL.mvB rfl rfl ?_
  refine WL.guardSplit rfl rfl (fun h1 => ?_) (fun h1 => ?_)
  · skip
    refine WL.mvS rfl rfl ?_
    refine WL.guard rfl h1 ?_
    refine WL.eqlS rfl rfl rfl ?_
    refine WL.pickF rfl rfl h1 rfl ?_
    refine WL.mvB rfl rfl ?_
    refine WL.guardSplit rfl rfl (fun h2 => ?_) (fun h2 => ?_)
    · skip
      refine WL.mvS rfl rfl ?_
      refine WL.guard rfl h2 ?_
      refine WL.eqlS rfl rfl rfl ?_
      refine WL.pickF rfl rfl h2 rfl ?_
      refine WL.mvB rfl rfl ?_
      refine WL.guardSplit rfl rfl (fun h3 => ?_) (fun h3 => ?_)
      · skip
        refine WL.mvS rfl rfl ?_
        refine WL.guard rfl h3 ?_
        refine WL.eqlS rfl rfl rfl ?_
        refine WL.pickF rfl rfl h3 rfl ?_
        refine WL.asB rfl rfl ?_
        refine WL.nil ?_
        refine WK.ret ?_
        refine WK.end1 rfl (show _ = .bool _ from rfl) ?_
        simp only [wayB, *, Bool.not_true, Bool.not_false, Bool.true_or, Bool.false_or]
      · skip
        refine WL.guardSkip rfl h3 rfl ?_
        refine WL.pickT rfl rfl h3 rfl ?_
        refine WL.asB rfl rfl ?_
        refine WL.nil ?_
        refine WK.ret ?_
        refine WK.end1 rfl (show _ = .bool _ from rfl) ?_
        simp only [wayB, *, Bool.not_true, Bool.not_false, Bool.true_or, Bool.false_or]
    · skip
      refine WL.guardSkip rfl h2 rfl ?_
      refine WL.pickT rfl rfl h2 rfl ?_
      refine WL.mvB rfl rfl ?_
      refine WL.guardSkip rfl rfl rfl ?_
      refine WL.guardSkip rfl rfl rfl ?_
      refine WL.pickT rfl rfl rfl rfl ?_
      refine WL.asB rfl rfl ?_
      refine WL.nil ?_
      refine WK.ret ?_
      refine WK.end1 rfl (show _ = .bool _ from rfl) ?_
      simp only [wayB, *, Bool.not_true, Bool.not_false, Bool.true_or, Bool.false_or]
  · skip
    refine WL.guardSkip rfl h1 rfl ?_
    refine WL.pickT rfl rfl h1 rfl ?_
    refine WL.mvB rfl rfl ?_
    refine WL.guardSkip rfl rfl rfl ?_
    refine WL.guardSkip rfl rfl rfl ?_
    refine WL.pickT rfl rfl rfl rfl ?_
    refine WL.mvB rfl rfl ?_
    refine WL.guardSkip rfl rfl rfl ?_
    refine WL.guardSkip rfl rfl rfl ?_
    refine WL.pickT rfl rfl rfl rfl ?_
    refine WL.asB rfl rfl ?_
    refine WL.nil ?_
    refine WK.ret ?_
    refine WK.end1 rfl (show _ = .bool _ from rfl) ?_
    simp only [wayB, *, Bool.not_true, Bool.not_false, Bool.true_or, Bool.false_or]
theorem how_pu (s : List UInt8) : Pu Tryd.prog 46 [str s] (.bool (wayB s)) := by
  refine Pu.of Tryd.func46 Tryd.ntmps46 rfl rfl fun w => ?_
  refine WK.seq ?_
  refine WK.region ?_
  refine WL.asC rfl ?_
  refine WL.nil ?_
  refine WK.seq ?_
  refine WK.region ?_
  refine WL.mvS rfl rfl ?_
  refine WL.eqlS rfl rfl rfl ?_
  refine WL.mvB rfl rfl ?_
  refine WL.guardSplit rfl rfl (fun h1 => ?_) (fun h1 => ?_)
  · skip
    refine WL.mvS rfl rfl ?_
    refine WL.guard rfl h1 ?_
    refine WL.eqlS rfl rfl rfl ?_
    refine WL.pickF rfl rfl h1 rfl ?_
    refine WL.mvB rfl rfl ?_
    refine WL.guardSplit rfl rfl (fun h2 => ?_) (fun h2 => ?_)
    · skip
      refine WL.mvS rfl rfl ?_
      refine WL.guard rfl h2 ?_
      refine WL.eqlS rfl rfl rfl ?_
      refine WL.pickF rfl rfl h2 rfl ?_
      refine WL.mvB rfl rfl ?_
      refine WL.guardSplit rfl rfl (fun h3 => ?_) (fun h3 => ?_)
      · skip
        refine WL.mvS rfl rfl ?_
        refine WL.guard rfl h3 ?_
        refine WL.eqlS rfl rfl rfl ?_
        refine WL.pickF rfl rfl h3 rfl ?_
        refine WL.asB rfl rfl ?_
        refine WL.nil ?_
        refine WK.ret ?_
        refine WK.end1 rfl (show _ = .bool _ from rfl) ?_
        simp only [wayB, *, Bool.not_true, Bool.not_false, Bool.true_or, Bool.false_or]
      · skip
        refine WL.guardSkip rfl h3 rfl ?_
        refine WL.pickT rfl rfl h3 rfl ?_
        refine WL.asB rfl rfl ?_
        refine WL.nil ?_
        refine WK.ret ?_
        refine WK.end1 rfl (show _ = .bool _ from rfl) ?_
        simp only [wayB, *, Bool.not_true, Bool.not_false, Bool.true_or, Bool.false_or]
    · skip
      refine WL.guardSkip rfl h2 rfl ?_
      refine WL.pickT rfl rfl h2 rfl ?_
      refine WL.mvB rfl rfl ?_
      refine WL.guardSkip rfl rfl rfl ?_
      refine WL.guardSkip rfl rfl rfl ?_
      refine WL.pickT rfl rfl rfl rfl ?_
      refine WL.asB rfl rfl ?_
      refine WL.nil ?_
      refine WK.ret ?_
      refine WK.end1 rfl (show _ = .bool _ from rfl) ?_
      simp only [wayB, *, Bool.not_true, Bool.not_false, Bool.true_or, Bool.false_or]
  · skip
    refine WL.guardSkip rfl h1 rfl ?_
    refine WL.pickT rfl rfl h1 rfl ?_
    refine WL.mvB rfl rfl ?_
    refine WL.guardSkip rfl rfl rfl ?_
    refine WL.guardSkip rfl rfl rfl ?_
    refine WL.pickT rfl rfl rfl rfl ?_
    refine WL.mvB rfl rfl ?_
    refine WL.guardSkip rfl rfl rfl ?_
    refine WL.guardSkip rfl rfl rfl ?_
    refine WL.pickT rfl rfl rfl rfl ?_
    refine WL.asB rfl rfl ?_
    refine WL.nil ?_
    refine WK.ret ?_
    refine WK.end1 rfl (show _ = .bool _ from rfl) ?_
    simp only [wayB, *, Bool.not_true, Bool.not_false, Bool.true_or, Bool.false_or]
theorem framed_pu (s : List UInt8) : Pu Tryd.prog 35 [str s] (.bool (frameB s)) := by
  refine Pu.of Tryd.func35 Tryd.ntmps35 rfl rfl fun w => ?_
  refine WK.seq ?_
  refine WK.region ?_
  refine WL.asC rfl ?_
  refine WL.nil ?_
  refine WK.seq ?_
  refine WK.region ?_
  refine WL.mvS rfl rfl ?_
  refine WL.eqlS rfl rfl rfl ?_
  refine WL.mvB rfl rfl ?_
  refine WL.guardSplit rfl rfl (fun h1 => ?_) (fun h1 => ?_)
  · skip
    refine WL.mvS rfl rfl ?_
    refine WL.guard rfl h1 ?_
    refine WL.eqlS rfl rfl rfl ?_
    refine WL.pickF rfl rfl h1 rfl ?_
    refine WL.mvB rfl rfl ?_
    refine WL.guardSplit rfl rfl (fun h2 => ?_) (fun h2 => ?_)
    · skip
      refine WL.mvS rfl rfl ?_
      refine WL.guard rfl h2 ?_
      refine WL.eqlS rfl rfl rfl ?_
      refine WL.pickF rfl rfl h2 rfl ?_
      refine WL.asB rfl rfl ?_
      refine WL.nil ?_
      refine WK.ret ?_
      refine WK.end1 rfl (show _ = .bool _ from rfl) ?_
      simp only [frameB, *, Bool.not_true, Bool.not_false, Bool.true_or, Bool.false_or]
    · skip
      refine WL.guardSkip rfl h2 rfl ?_
      refine WL.pickT rfl rfl h2 rfl ?_
      refine WL.asB rfl rfl ?_
      refine WL.nil ?_
      refine WK.ret ?_
      refine WK.end1 rfl (show _ = .bool _ from rfl) ?_
      simp only [frameB, *, Bool.not_true, Bool.not_false, Bool.true_or, Bool.false_or]
  · skip
    refine WL.guardSkip rfl h1 rfl ?_
    refine WL.pickT rfl rfl h1 rfl ?_
    refine WL.mvB rfl rfl ?_
    refine WL.guardSkip rfl rfl rfl ?_
    refine WL.guardSkip rfl rfl rfl ?_
    refine WL.pickT rfl rfl rfl rfl ?_
    refine WL.asB rfl rfl ?_
    refine WL.nil ?_
    refine WK.ret ?_
    refine WK.end1 rfl (show _ = .bool _ from rfl) ?_
    simp only [frameB, *, Bool.not_true, Bool.not_false, Bool.true_or, Bool.false_or]
theorem rframed_pu (s : List UInt8) : Pu Tryd.prog 48 [str s] (.bool (frameB s)) := by
  refine Pu.of Tryd.func48 Tryd.ntmps48 rfl rfl fun w => ?_
  refine WK.seq ?_
  refine WK.region ?_
  refine WL.asC rfl ?_
  refine WL.nil ?_
  refine WK.seq ?_
  refine WK.region ?_
  refine WL.mvS rfl rfl ?_
  refine WL.eqlS rfl rfl rfl ?_
  refine WL.mvB rfl rfl ?_
  refine WL.guardSplit rfl rfl (fun h1 => ?_) (fun h1 => ?_)
  · skip
    refine WL.mvS rfl rfl ?_
    refine WL.guard rfl h1 ?_
    refine WL.eqlS rfl rfl rfl ?_
    refine WL.pickF rfl rfl h1 rfl ?_
    refine WL.mvB rfl rfl ?_
    refine WL.guardSplit rfl rfl (fun h2 => ?_) (fun h2 => ?_)
    · skip
      refine WL.mvS rfl rfl ?_
      refine WL.guard rfl h2 ?_
      refine WL.eqlS rfl rfl rfl ?_
      refine WL.pickF rfl rfl h2 rfl ?_
      refine WL.asB rfl rfl ?_
      refine WL.nil ?_
      refine WK.ret ?_
      refine WK.end1 rfl (show _ = .bool _ from rfl) ?_
      simp only [frameB, *, Bool.not_true, Bool.not_false, Bool.true_or, Bool.false_or]
    · skip
      refine WL.guardSkip rfl h2 rfl ?_
      refine WL.pickT rfl rfl h2 rfl ?_
      refine WL.asB rfl rfl ?_
      refine WL.nil ?_
      refine WK.ret ?_
      refine WK.end1 rfl (show _ = .bool _ from rfl) ?_
      simp only [frameB, *, Bool.not_true, Bool.not_false, Bool.true_or, Bool.false_or]
  · skip
    refine WL.guardSkip rfl h1 rfl ?_
    refine WL.pickT rfl rfl h1 rfl ?_
    refine WL.mvB rfl rfl ?_
    refine WL.guardSkip rfl rfl rfl ?_
    refine WL.guardSkip rfl rfl rfl ?_
    refine WL.pickT rfl rfl rfl rfl ?_
    refine WL.asB rfl rfl ?_
    refine WL.nil ?_
    refine WK.ret ?_
    refine WK.end1 rfl (show _ = .bool _ from rfl) ?_
    simp only [frameB, *, Bool.not_true, Bool.not_false, Bool.true_or, Bool.false_or]
theorem says_pu (p : Par) : Pu Tryd.prog 59 [parV p] (.bool (saysB p)) := by
  refine Pu.of Tryd.func59 Tryd.ntmps59 rfl rfl fun w => ?_
  refine WK.seq ?_
  refine WK.region ?_
  refine WL.box rfl rfl fun b1 => ?_
  refine WL.asC rfl ?_
  refine WL.nil ?_
  refine WK.seq ?_
  refine WK.region ?_
  refine WL.fieldO rfl rfl ?_
  refine WL.load1O rfl rfl (by first | exact .here | exact .there .here | exact .there (.there .here) | exact .there (.there (.there .here)) | exact .there (.there (.there (.there .here))) | exact .there (.there (.there (.there (.there .here))))) (show _ = some (str _) from rfl) ?_
  refine WL.eqlS rfl rfl rfl ?_
  refine WL.mvB rfl rfl ?_
  refine WL.guardSplit rfl rfl (fun h1 => ?_) (fun h1 => ?_)
  · skip
    refine WL.fieldO rfl rfl ?_
    refine WL.guard rfl h1 ?_
    refine WL.load1O rfl rfl (by first | exact .here | exact .there .here | exact .there (.there .here) | exact .there (.there (.there .here)) | exact .there (.there (.there (.there .here))) | exact .there (.there (.there (.there (.there .here))))) (show _ = some (str _) from rfl) ?_
    refine WL.guard rfl h1 ?_
    refine WL.eqlS rfl rfl rfl ?_
    refine WL.pickF rfl rfl h1 rfl ?_
    refine WL.mvB rfl rfl ?_
    refine WL.guardSplit rfl rfl (fun h2 => ?_) (fun h2 => ?_)
    · skip
      refine WL.fieldO rfl rfl ?_
      refine WL.guard rfl h2 ?_
      refine WL.load1O rfl rfl (by first | exact .here | exact .there .here | exact .there (.there .here) | exact .there (.there (.there .here)) | exact .there (.there (.there (.there .here))) | exact .there (.there (.there (.there (.there .here))))) (show _ = some (str _) from rfl) ?_
      refine WL.guard rfl h2 ?_
      refine WL.eqlS rfl rfl rfl ?_
      refine WL.guard rfl h2 ?_
      refine WL.mvB rfl rfl ?_
      refine WL.guardSplit rfl rfl (fun h3 => ?_) (fun h3 => ?_)
      · skip
        refine WL.fieldO rfl rfl ?_
        refine WL.guard rfl h3 ?_
        refine WL.load1O rfl rfl (by first | exact .here | exact .there .here | exact .there (.there .here) | exact .there (.there (.there .here)) | exact .there (.there (.there (.there .here))) | exact .there (.there (.there (.there (.there .here))))) (show _ = some (str _) from rfl) ?_
        refine WL.guard rfl h3 ?_
        refine WL.callp (written_pu _) rfl rfl rfl ?_
        refine WL.guard rfl h2 ?_
        refine WL.pickT rfl rfl h3 rfl ?_
        refine WL.pickF rfl rfl h2 rfl ?_
        refine WL.asB rfl rfl ?_
        refine WL.nil ?_
        refine WK.ret ?_
        refine WK.end1 rfl (show _ = .bool _ from rfl) ?_
        simp only [saysB, *, Bool.not_true, Bool.not_false, Bool.true_or, Bool.false_or, Bool.true_and, Bool.false_and]
      · skip
        refine WL.guardSkip rfl h3 rfl ?_
        refine WL.guardSkip rfl h3 rfl ?_
        refine WL.guard rfl h2 ?_
        refine WL.pickF rfl rfl h3 rfl ?_
        refine WL.pickF rfl rfl h2 rfl ?_
        refine WL.asB rfl rfl ?_
        refine WL.nil ?_
        refine WK.ret ?_
        refine WK.end1 rfl (show _ = .bool _ from rfl) ?_
        simp only [saysB, *, Bool.not_true, Bool.not_false, Bool.true_or, Bool.false_or, Bool.true_and, Bool.false_and]
    · skip
      refine WL.guardSkip rfl h2 rfl ?_
      refine WL.guardSkip rfl h2 rfl ?_
      refine WL.guardSkip rfl h2 rfl ?_
      refine WL.guardNone rfl rfl ?_
      refine WL.guardNone rfl rfl ?_
      refine WL.guardNone rfl rfl ?_
      refine WL.guardSkip rfl h2 rfl ?_
      refine WL.pickT rfl rfl h2 rfl ?_
      refine WL.asB rfl rfl ?_
      refine WL.nil ?_
      refine WK.ret ?_
      refine WK.end1 rfl (show _ = .bool _ from rfl) ?_
      simp only [saysB, *, Bool.not_true, Bool.not_false, Bool.true_or, Bool.false_or, Bool.true_and, Bool.false_and]
  · skip
    refine WL.guardSkip rfl h1 rfl ?_
    refine WL.guardSkip rfl h1 rfl ?_
    refine WL.pickT rfl rfl h1 rfl ?_
    refine WL.mvB rfl rfl ?_
    refine WL.guardSkip rfl rfl rfl ?_
    refine WL.guardSkip rfl rfl rfl ?_
    refine WL.guardSkip rfl rfl rfl ?_
    refine WL.guardSkip rfl rfl rfl ?_
    refine WL.guardNone rfl rfl ?_
    refine WL.guardNone rfl rfl ?_
    refine WL.guardNone rfl rfl ?_
    refine WL.guardSkip rfl rfl rfl ?_
    refine WL.pickT rfl rfl rfl rfl ?_
    refine WL.asB rfl rfl ?_
    refine WL.nil ?_
    refine WK.ret ?_
    refine WK.end1 rfl (show _ = .bool _ from rfl) ?_
    simp only [saysB, *, Bool.not_true, Bool.not_false, Bool.true_or, Bool.false_or, Bool.true_and, Bool.false_and]

/-! The own bytes of a slice, written one by one. -/
section
variable {P : Program} {E : Env} {n : Nat} {ds : List Deferred} {m : Imm} {own own' : Own} {ρ : Nat → Value} {ks : List Kt} {ops : Array Oper} {rest : List Oper} {d : Nat} {ty t el : TypeId} {pos : String} {af : Array Edge} {x y : Operand}
theorem WL.indexW {bytes len cap j : Nat} {agg : Bool} {z : Value} {kk : IntKind} {i : Int} {a : Option Addr} {blk : Bun} {xs : List Value} [hU : Und P t (.slice el)] [hT : Ty P el agg 1 bytes z] (hd : Nat.blt d n = true)
    (hx : ev ρ x = .slice a len cap) (hO : OSl blk 1 el (.slice a len cap) xs) (hin : At own blk) (hy : ev ρ y = .int kk i) (hij : i = (j : Int)) (hj : j < xs.length)
    (h : ∀ b, a = some ⟨b, 0, none⟩ → WL P E n ds m own (upd ρ d (.pointer (some ⟨b, j, none⟩))) ops rest ks) :
    WL P E n ds m own ρ ops (⟨some d, .indexAddr t x y, ty, pos, af, none⟩ :: rest) ks := by
  rcases hO with ⟨_, hn, _⟩ | ⟨b, arr, cap', fz, rfl, hv, hc1, hsz, hfz, hf, hcell⟩
  · subst hn; simp at hj
  · injection hv with e1 e2 e3
    subst e1; subst e2; subst e3
    have e : (⟨b, 0, none⟩ : Addr).add j = ⟨b, j, none⟩ := by rw [addr_add]; simp
    subst hij
    refine WL.pure hd (by simp) (fun w => ?_) (h b rfl)
    simp [execOp, Instr.indexAt, hx, hy, asIntOf, Sem.run_bind, run_underlying hU.ok, Result.andThen, hT.size, e, hj]
theorem WL.storeW {bytes len cap j b : Nat} {z v : Value} {blk : Bun} {xs : List Value} {own1 : Bun → Own} [hT : Ty P t false 1 bytes z] (hx : ev ρ x = .pointer (some ⟨b, j, none⟩)) (hy : ev ρ y = v) (h1 : v.oneCell' = true)
    (hO : OSl blk 1 t (.slice (some ⟨b, 0, none⟩) len cap) xs) (hB : ∀ blk', BUpd own blk blk' (own1 blk')) (hj : j < xs.length)
    (h : ∀ blk', OSl blk' 1 t (.slice (some ⟨b, 0, none⟩) len cap) (xs.set j v) → WL P E n ds m (own1 blk') ρ ops rest ks) :
    WL P E n ds m own ρ ops (⟨none, .store t x y, ty, pos, af, none⟩ :: rest) ks := by
  rcases hO with ⟨_, hn, _⟩ | ⟨b', arr, cap', fz, rfl, hv, hc1, hsz, hfz, hf, hcell⟩
  · subst hn; simp at hj
  · injection hv with e1 e2 e3
    injection e1 with e1
    injection e1 with e1
    subst e1; subst e2; subst e3
    refine WL.stepNone (by simp) fun w hs => ?_
    have hb' := hs.inv.mine (b, .cells arr t fz) ((hB []).at.mem _ (by simp))
    have hc : v.cells = #[v] := by cases v <;> first | rfl | (simp [Value.oneCell'] at h1)
    obtain ⟨w', h2, h3⟩ := run_storeVar (P := P) (t := t) (v := v) (off := j) hb' (by rw [hc]; rfl) (by rw [hsz]; omega) hfz (by rw [hc]; simpa using h1)
    rw [hc] at h3
    refine ⟨w', m, own1 _, .inl ?_, hs.put (hB _) h3.turned, h _ ?_⟩
    · simp [execOp, Instr.storeAt, Instr.sureAddr, hx, hy, Result.andThen, h2]
    · refine .inr ⟨b, _, cap, fz, rfl, by simp, by simpa using hc1, ?_, ?_, ?_, ?_⟩
      · rw [setAt_size, hsz]
      · rw [setAt_size]; exact hfz
      · intro x hx
        rcases List.mem_or_eq_of_mem_set hx with h | rfl
        · exact hf x h
        · exact Fit.one h1
      · intro i x hi q c hq
        have hq0 : q = 0 := by
          have hx1 : x.cells.size = 1 := by
            rcases List.mem_or_eq_of_mem_set (List.mem_of_getElem? hi) with h | rfl
            · exact (hf x h).1
            · rw [hc]; rfl
          have := (Array.getElem?_eq_some_iff.1 hq).1
          omega
        subst hq0
        rw [Nat.mul_one, Nat.add_zero, setAt_get _ _ _ _ (by simp; omega)]
        rw [List.getElem?_set] at hi
        by_cases hij : j = i
        · subst hij
          rw [if_pos rfl, if_pos hj] at hi
          obtain rfl := Option.some.inj hi
          rw [if_pos (by simp), Nat.sub_self]
          rw [hc] at hq
          simpa using hq
        · rw [if_neg hij] at hi
          rw [if_neg (by simp; omega)]
          have := hcell i x hi 0 c hq
          rwa [Nat.mul_one, Nat.add_zero] at this
end

/-! Small letters as capitals. -/
theorem capA (c : UInt8) (h : (decide ((97 : Int) ≤ c.toNat) && decide ((c.toNat : Int) ≤ 122)) = true) : Value.int .u8 (IntKind.u8.wrap (IntKind.u8.wrap ((c.toNat : Int) - 97) + 65)) = byt (capC c) := by
  simp only [Bool.and_eq_true, decide_eq_true_eq] at h
  have e : capC c = UInt8.ofNat (c.toNat - 32) := by rw [capC, if_pos (by simp; omega)]
  rw [e]
  have w1 : IntKind.u8.wrap ((c.toNat : Int) - 97) = (c.toNat : Int) - 97 := IntWalk.u8_in _ ⟨by omega, by omega⟩
  have w2 : IntKind.u8.wrap ((c.toNat : Int) - 97 + 65) = (c.toNat : Int) - 97 + 65 := IntWalk.u8_in _ ⟨by omega, by omega⟩
  rw [w1, w2, byt]
  congr 1
  rw [UInt8.toNat_ofNat']
  omega
theorem capB (c : UInt8) (h : (decide ((97 : Int) ≤ c.toNat) && decide ((c.toNat : Int) ≤ 122)) = true) : Value.int .u8 (IntKind.u8.wrap ((c.toNat : Int) - 32)) = byt (capC c) := by
  simp only [Bool.and_eq_true, decide_eq_true_eq] at h
  have e : capC c = UInt8.ofNat (c.toNat - 32) := by rw [capC, if_pos (by simp; omega)]
  rw [e]
  have w1 : IntKind.u8.wrap ((c.toNat : Int) - 32) = (c.toNat : Int) - 32 := IntWalk.u8_in _ ⟨by omega, by omega⟩
  rw [w1, byt]
  congr 1
  rw [UInt8.toNat_ofNat']
  omega
def capTo (s : List UInt8) (k : Nat) : List UInt8 := (s.take k).map capC ++ s.drop k
theorem capTo_len (s : List UInt8) (k : Nat) : (capTo s k).length = s.length := by
  simp [capTo]; omega
theorem capTo_get {s : List UInt8} {k : Nat} (h : k < s.length) : (capTo s k)[k]? = some s[k] := by
  rw [capTo, List.getElem?_append_right (by simp; omega)]
  simp [Nat.min_eq_left (Nat.le_of_lt h), h]
theorem capTo_succ {s : List UInt8} {k : Nat} (h : k < s.length) : capTo s (k + 1) = (capTo s k).set k (capC s[k]) := by
  rw [capTo, capTo, List.take_succ_eq_append_getElem h, List.drop_eq_getElem_cons h, List.set_append_right _ _ (by simp; omega)]
  simp only [List.map_append, List.map_cons, List.map_nil, List.length_map, List.length_take, Nat.min_eq_left (Nat.le_of_lt h), Nat.sub_self, List.set_cons_zero, List.append_assoc, List.singleton_append]
theorem capTo_same {s : List UInt8} {k : Nat} (h : k < s.length) (hc : capC s[k] = s[k]) : capTo s (k + 1) = capTo s k := by
  rw [capTo_succ h, hc]
  apply List.ext_getElem?
  intro i
  rw [List.getElem?_set]
  split
  · rename_i e; subst e
    rw [capTo_get h]; simp [capTo_len, h]
  · rfl
theorem capitals_pu (s : List UInt8) (hs : s.length ≤ 1000000000) : Pu Tryd.prog 60 [str s] (str (s.map capC)) := by
  refine Pu.of Tryd.func60 Tryd.ntmps60 rfl rfl fun w => ?_
  refine WK.seq ?_
  refine WK.region ?_
  refine WL.asC rfl ?_
  refine WL.nil ?_
  refine WK.seq ?_
  refine WK.region ?_
  refine WL.mvS rfl rfl ?_
  refine WL.toBytes rfl rfl fun v7 blk7 hO7 => ?_
  obtain ⟨a7, c7, hv7, hc7⟩ := hO7.shape; rw [List.length_map] at hv7 hc7; subst hv7
  refine WL.asL rfl rfl ?_
  refine WL.nil ?_
  refine WK.seq ?_
  refine WK.seq ?_
  refine WK.region ?_
  refine WL.mvL rfl rfl ?_
  refine WL.lenSl rfl rfl ?_
  refine WL.mvC rfl ?_
  refine WL.nil ?_
  refine WK.block ?_
  -- loop
  refine WK.loop (G := Nat × Bun) (fun g => [(10, .int .i64 (g.1 : Nat)), (9, .int .i64 (s.length : Nat)), (8, .slice a7 s.length c7), (3, .slice a7 s.length c7)]) (fun _ _ => none) (fun g => [g.2])
    (fun g => g.1 ≤ s.length ∧ OSl g.2 1 5 (.slice a7 s.length c7) ((capTo s g.1).map byt)) (fun g => s.length - g.1) (0, _) ⟨by simp, by simpa [capTo] using hO7⟩ ⟨rfl, rfl, rfl, rfl, trivial⟩ rfl rfl ?_
  rintro ⟨k, bk⟩ ρ ⟨hk, hO⟩
  replace hk : k ≤ s.length := hk
  replace hO : OSl bk 1 5 (.slice a7 s.length c7) ((capTo s k).map byt) := hO
  have hS : Sl (Rd (fun _ => none) [bk]) 1 (.slice a7 s.length c7) ((capTo s k).map byt) := hO.sl fun p hp => .inr (At.mem .here p hp)
  refine WK.seq ?_
  refine WK.region ?_
  refine WL.lss rfl rfl rfl ?_
  refine WL.nil ?_
  refine WK.seq ?_
  -- cond
  refine WK.cond rfl (fun h => ?_) (fun h => ?_)
  · have hlt : k < s.length := by simpa using h
    have hc : ((capTo s k).map byt)[k]? = some (byt s[k]) := by rw [List.getElem?_map, capTo_get hlt]; rfl
    refine WK.skip ?_
    refine WK.seq ?_
    refine WK.block ?_
    refine WK.seq ?_
    refine WK.region ?_
    refine WL.mvI rfl rfl ?_
    refine WL.indexE rfl rfl hS rfl rfl hc fun p13 hp13 => ?_
    refine WL.load1 rfl rfl hp13 ?_
    refine WL.asI rfl rfl ?_
    refine WL.asI rfl rfl ?_
    refine WL.nil ?_
    refine WK.seq ?_
    refine WK.mid (fun (_ : Unit) => [(20, .bool (decide ((97 : Int) ≤ s[k].toNat) && decide ((s[k].toNat : Int) ≤ 122))), (10, .int .i64 (k : Nat)), (4, .int .i64 (k : Nat)), (5, byt s[k]), (9, .int .i64 (s.length : Nat)), (8, .slice a7 s.length c7), (3, .slice a7 s.length c7)]) (fun _ _ => none) (fun g => [bk]) (fun _ => True) ?_ ?_
    · skip
      refine WK.region ?_
      refine WL.mvI rfl rfl ?_
      refine WL.geq rfl rfl rfl ?_
      refine WL.mvB rfl rfl ?_
      refine WL.guardSplit rfl rfl (fun h1 => ?_) (fun h1 => ?_)
      · skip
        refine WL.mvI rfl rfl ?_
        refine WL.guard rfl h1 ?_
        refine WL.leq rfl rfl rfl ?_
        refine WL.pickT rfl rfl h1 rfl ?_
        refine WL.nil ?_
        refine WK.met () trivial ⟨congrArg Value.bool ?_, rfl, rfl, rfl, rfl, rfl, rfl, trivial⟩ rfl rfl
        simp only [*, Bool.not_true, Bool.not_false, Bool.true_and, Bool.false_and]
      · skip
        refine WL.guardSkip rfl h1 rfl ?_
        refine WL.pickF rfl rfl h1 rfl ?_
        refine WL.nil ?_
        refine WK.met () trivial ⟨congrArg Value.bool ?_, rfl, rfl, rfl, rfl, rfl, rfl, trivial⟩ rfl rfl
        simp only [*, Bool.not_true, Bool.not_false, Bool.true_and, Bool.false_and]
    rintro _ ρ _
    -- cond
    refine WK.cond rfl (fun h2 => ?_) (fun h2 => ?_)
    · skip
      refine WK.region ?_
      refine WL.mvL rfl rfl ?_
      refine WL.mvI rfl rfl ?_
      refine WL.mvI rfl rfl ?_
      refine WL.subW rfl rfl rfl ?_
      refine WL.addW rfl rfl rfl ?_
      refine WL.indexW rfl rfl hO .here rfl rfl (by rw [List.length_map, capTo_len]; exact hlt) fun b26 hb26 => ?_
      refine WL.storeW rfl (show _ = byt (capC s[k]) from capA s[k] h2) rfl (hb26 ▸ hO) (fun _ => .here) (by rw [List.length_map, capTo_len]; exact hlt) fun blk26 hO26 => ?_
      refine WL.nil ?_
      refine WK.blk ?_
      refine WK.region ?_
      refine WL.add rfl rfl rfl (by omega) ?_
      refine WL.mvI rfl rfl ?_
      refine WL.nil ?_
      -- again
      refine WK.again (k + 1, blk26) ⟨by show k + 1 ≤ _; omega, ?_⟩ (by show s.length - (k + 1) < s.length - k; omega) ⟨rfl, rfl, rfl, rfl, trivial⟩ rfl rfl
      show OSl blk26 1 _ _ ((capTo s (k + 1)).map byt)
      rw [capTo_succ hlt, List.map_set, hb26]
      exact hO26
    · skip
      refine WK.skip ?_
      refine WK.blk ?_
      refine WK.region ?_
      refine WL.add rfl rfl rfl (by omega) ?_
      refine WL.mvI rfl rfl ?_
      refine WL.nil ?_
      -- again
      refine WK.again (k + 1, bk) ⟨by show k + 1 ≤ _; omega, ?_⟩ (by show s.length - (k + 1) < s.length - k; omega) ⟨rfl, rfl, rfl, rfl, trivial⟩ rfl rfl
      show OSl bk 1 _ _ ((capTo s (k + 1)).map byt)
      rw [capTo_same hlt (by rw [capC, if_neg (by rw [h2]; simp)])]
      exact hO
  · skip
    have hk2 : k = s.length := by simp at h; omega
    have hS2 : Sl (Rd (fun _ => none) [bk]) 1 (.slice a7 s.length c7) ((s.map capC).map byt) := by
      subst hk2; simpa [capTo] using hS
    refine WK.exit ?_
    refine WK.exit_code ?_
    refine WK.exit_lp ?_
    refine WK.exit_hit ?_
    refine WK.seq ?_
    refine WK.region ?_
    refine WL.mvL rfl rfl ?_
    refine WL.ofBytes rfl rfl hS2 ?_
    refine WL.asS rfl rfl ?_
    refine WL.nil ?_
    refine WK.ret ?_
    -- end
    refine WK.end1 rfl (show _ = str _ from rfl) ?_
    rfl
theorem upper_pu (s : List UInt8) (hs : s.length ≤ 1000000000) : Pu Tryd.prog 47 [str s] (str (s.map capC)) := by
  refine Pu.of Tryd.func47 Tryd.ntmps47 rfl rfl fun w => ?_
  refine WK.seq ?_
  refine WK.region ?_
  refine WL.asC rfl ?_
  refine WL.nil ?_
  refine WK.seq ?_
  refine WK.region ?_
  refine WL.mvS rfl rfl ?_
  refine WL.toBytes rfl rfl fun v6 blk6 hO6 => ?_
  obtain ⟨a6, c6, hv6, hc6⟩ := hO6.shape; rw [List.length_map] at hv6 hc6; subst hv6
  refine WL.asL rfl rfl ?_
  refine WL.nil ?_
  refine WK.seq ?_
  refine WK.seq ?_
  refine WK.region ?_
  refine WL.asC rfl ?_
  refine WL.nil ?_
  refine WK.block ?_
  -- loop
  refine WK.loop (G := Nat × Bun) (fun g => [(4, .int .i64 (g.1 : Nat)), (3, .slice a6 s.length c6)]) (fun _ _ => none) (fun g => [g.2])
    (fun g => g.1 ≤ s.length ∧ OSl g.2 1 5 (.slice a6 s.length c6) ((capTo s g.1).map byt)) (fun g => s.length - g.1) (0, _) ⟨by simp, by simpa [capTo] using hO6⟩ ⟨rfl, rfl, trivial⟩ rfl rfl ?_
  rintro ⟨k, bk⟩ ρ ⟨hk, hO⟩
  replace hk : k ≤ s.length := hk
  replace hO : OSl bk 1 5 (.slice a6 s.length c6) ((capTo s k).map byt) := hO
  have hS : Sl (Rd (fun _ => none) [bk]) 1 (.slice a6 s.length c6) ((capTo s k).map byt) := hO.sl fun p hp => .inr (At.mem .here p hp)
  refine WK.seq ?_
  refine WK.seq ?_
  refine WK.region ?_
  refine WL.mvI rfl rfl ?_
  refine WL.mvL rfl rfl ?_
  refine WL.lenSl rfl rfl ?_
  refine WL.lss rfl rfl rfl ?_
  refine WL.nil ?_
  -- cond
  refine WK.cond rfl (fun h => ?_) (fun h => ?_)
  · have hlt : k < s.length := by simpa using h
    have hc : ((capTo s k).map byt)[k]? = some (byt s[k]) := by rw [List.getElem?_map, capTo_get hlt]; rfl
    refine WK.skip ?_
    refine WK.seq ?_
    refine WK.block ?_
    refine WK.seq ?_
    refine WK.mid (fun (_ : Unit) => [(24, .bool (decide ((97 : Int) ≤ s[k].toNat) && decide ((s[k].toNat : Int) ≤ 122))), (4, .int .i64 (k : Nat)), (3, .slice a6 s.length c6)]) (fun _ _ => none) (fun g => [bk]) (fun _ => True) ?_ ?_
    · skip
      refine WK.region ?_
      refine WL.mvL rfl rfl ?_
      refine WL.mvI rfl rfl ?_
      refine WL.indexE rfl rfl hS rfl rfl hc fun p15 hp15 => ?_
      refine WL.load1 rfl rfl hp15 ?_
      refine WL.geq rfl rfl rfl ?_
      refine WL.mvB rfl rfl ?_
      refine WL.guardSplit rfl rfl (fun h1 => ?_) (fun h1 => ?_)
      · skip
        refine WL.mvL rfl rfl ?_
        refine WL.guard rfl h1 ?_
        refine WL.mvI rfl rfl ?_
        refine WL.guard rfl h1 ?_
        refine WL.indexE rfl rfl hS rfl rfl hc fun p21 hp21 => ?_
        refine WL.guard rfl h1 ?_
        refine WL.load1 rfl rfl hp21 ?_
        refine WL.guard rfl h1 ?_
        refine WL.leq rfl rfl rfl ?_
        refine WL.pickT rfl rfl h1 rfl ?_
        refine WL.nil ?_
        refine WK.met () trivial ⟨congrArg Value.bool ?_, rfl, rfl, trivial⟩ rfl rfl
        simp only [*, Bool.not_true, Bool.not_false, Bool.true_and, Bool.false_and]
      · skip
        refine WL.guardSkip rfl h1 rfl ?_
        refine WL.guardSkip rfl h1 rfl ?_
        refine WL.guardSkip rfl h1 rfl ?_
        refine WL.guardSkip rfl h1 rfl ?_
        refine WL.pickF rfl rfl h1 rfl ?_
        refine WL.nil ?_
        refine WK.met () trivial ⟨congrArg Value.bool ?_, rfl, rfl, trivial⟩ rfl rfl
        simp only [*, Bool.not_true, Bool.not_false, Bool.true_and, Bool.false_and]
    rintro _ ρ _
    -- cond
    refine WK.cond rfl (fun h2 => ?_) (fun h2 => ?_)
    · skip
      refine WK.region ?_
      refine WL.mvL rfl rfl ?_
      refine WL.mvI rfl rfl ?_
      refine WL.mvL rfl rfl ?_
      refine WL.mvI rfl rfl ?_
      refine WL.indexE rfl rfl hS rfl rfl hc fun p29 hp29 => ?_
      refine WL.load1 rfl rfl hp29 ?_
      refine WL.subW rfl rfl rfl ?_
      refine WL.indexW rfl rfl hO .here rfl rfl (by rw [List.length_map, capTo_len]; exact hlt) fun b32 hb32 => ?_
      refine WL.storeW rfl (show _ = byt (capC s[k]) from capB s[k] h2) rfl (hb32 ▸ hO) (fun _ => .here) (by rw [List.length_map, capTo_len]; exact hlt) fun blk32 hO32 => ?_
      refine WL.nil ?_
      refine WK.blk ?_
      refine WK.region ?_
      refine WL.mvI rfl rfl ?_
      refine WL.add rfl rfl rfl (by omega) ?_
      refine WL.asI rfl rfl ?_
      refine WL.nil ?_
      -- again
      refine WK.again (k + 1, blk32) ⟨by show k + 1 ≤ _; omega, ?_⟩ (by show s.length - (k + 1) < s.length - k; omega) ⟨rfl, rfl, trivial⟩ rfl rfl
      show OSl blk32 1 _ _ ((capTo s (k + 1)).map byt)
      rw [capTo_succ hlt, List.map_set, hb32]
      exact hO32
    · skip
      refine WK.skip ?_
      refine WK.blk ?_
      refine WK.region ?_
      refine WL.mvI rfl rfl ?_
      refine WL.add rfl rfl rfl (by omega) ?_
      refine WL.asI rfl rfl ?_
      refine WL.nil ?_
      -- again
      refine WK.again (k + 1, bk) ⟨by show k + 1 ≤ _; omega, ?_⟩ (by show s.length - (k + 1) < s.length - k; omega) ⟨rfl, rfl, trivial⟩ rfl rfl
      show OSl bk 1 _ _ ((capTo s (k + 1)).map byt)
      rw [capTo_same hlt (by rw [capC, if_neg (by rw [h2]; simp)])]
      exact hO
  · skip
    have hk2 : k = s.length := by simp at h; omega
    have hS2 : Sl (Rd (fun _ => none) [bk]) 1 (.slice a6 s.length c6) ((s.map capC).map byt) := by
      subst hk2; simpa [capTo] using hS
    refine WK.exit ?_
    refine WK.exit_code ?_
    refine WK.exit_lp ?_
    refine WK.exit_hit ?_
    refine WK.seq ?_
    refine WK.region ?_
    refine WL.mvL rfl rfl ?_
    refine WL.ofBytes rfl rfl hS2 ?_
    refine WL.asS rfl rfl ?_
    refine WL.nil ?_
    refine WK.ret ?_
    -- end
    refine WK.end1 rfl (show _ = str _ from rfl) ?_
    rfl
theorem odd_pu (p : Par) (h1 : p.1.length ≤ 1000000000) (h2 : p.2.length ≤ 1000000000) : Pu Tryd.prog 34 [parV p] (.bool (oddB p)) := by
  refine Pu.of Tryd.func34 Tryd.ntmps34 rfl rfl fun w => ?_
  refine WK.seq ?_
  refine WK.region ?_
  refine WL.box rfl rfl fun b1 => ?_
  refine WL.asC rfl ?_
  refine WL.nil ?_
  refine WK.seq ?_
  -- draw
  cases hA : saysB p with
  | true =>
    refine WK.drawn 16 #[[], [0], [0, 1], [0, 1, 2], [0, 1, 2, 3], [0, 1, 2, 3, 4], [0, 1, 2, 3, 4, 5], [0, 1, 2, 3, 4, 5, 6], [0, 1, 2, 3, 4, 5, 6, 7], [0, 1, 2, 3, 4, 5, 6, 7, 8], [0, 1, 2, 3, 4, 5, 6], [0, 1, 2, 3, 4, 5, 6, 10], [0, 1, 2, 3, 4, 5, 6, 7, 8, 9, 10, 11], [0, 1, 2, 3, 4, 5, 6, 7, 8, 9, 10, 11, 12], [0, 1, 2, 3, 4, 5, 6, 7, 8, 9, 10, 11, 12, 13], [0, 1, 2, 3, 4, 5, 6, 7, 8, 9, 10, 11, 12, 13, 14]] mixed_ok (by kernel_rfl) ?_
    refine WR.cons rfl rfl (fun K h => WL.loadAO rfl rfl (by first | exact .here | exact .there .here | exact .there (.there .here) | exact .there (.there (.there .here)) | exact .there (.there (.there (.there .here))) | exact .there (.there (.there (.there (.there .here))))) (by rfl) h) ?_
    refine WR.cons rfl rfl (fun K h => WL.callp (says_pu p) rfl rfl rfl h) ?_
    refine WR.cons rfl rfl (fun K h => WL.mvB rfl rfl h) ?_
    refine WR.cons rfl rfl (fun K h => WL.guardSkip rfl hA rfl h) ?_
    refine WR.cons rfl rfl (fun K h => WL.guardSkip rfl hA rfl h) ?_
    refine WR.cons rfl rfl (fun K h => WL.guardSkip rfl hA rfl h) ?_
    refine WR.cons rfl rfl (fun K h => WL.guardSkip rfl hA rfl h) ?_
    refine WR.cons rfl rfl (fun K h => WL.guardNone rfl rfl h) ?_
    refine WR.cons rfl rfl (fun K h => WL.guardNone rfl rfl h) ?_
    refine WR.cons rfl rfl (fun K h => WL.guardNone rfl rfl h) ?_
    refine WR.cons rfl rfl (fun K h => WL.guardNone rfl rfl h) ?_
    refine WR.cons rfl rfl (fun K h => WL.guardNone rfl rfl h) ?_
    refine WR.cons rfl rfl (fun K h => WL.guardNone rfl rfl h) ?_
    refine WR.cons rfl rfl (fun K h => WL.guardSkip rfl hA rfl h) ?_
    refine WR.cons rfl rfl (fun K h => WL.pickT rfl rfl hA rfl h) ?_
    refine WR.cons rfl rfl (fun K h => WL.asB rfl rfl h) ?_
    refine WR.nil ?_
    refine WL.nil ?_
    refine WK.ret ?_
    -- end
    refine WK.end1 rfl (show _ = .bool _ from rfl) ?_
    simp only [oddB, hA, Bool.true_or]
  | false =>
    cases hB : decide (p.1 = []) with
    | true =>
      refine WK.drawn 16 #[[], [0], [0, 1], [0, 1, 2], [0, 1, 2, 3], [0, 1, 2, 3, 4], [0, 1, 2, 3, 4, 5], [0, 1, 2, 3, 4, 5, 6], [0, 1, 2, 3, 4, 5, 6, 7], [0, 1, 2, 3, 4, 5, 6, 7, 8], [0, 1, 2, 3, 4, 5, 6], [0, 1, 2, 3, 4, 5, 6, 10], [0, 1, 2, 3, 4, 5, 6, 7, 8, 9, 10, 11], [0, 1, 2, 3, 4, 5, 6, 7, 8, 9, 10, 11, 12], [0, 1, 2, 3, 4, 5, 6, 7, 8, 9, 10, 11, 12, 13], [0, 1, 2, 3, 4, 5, 6, 7, 8, 9, 10, 11, 12, 13, 14]] mixed_ok (by kernel_rfl) ?_
      refine WR.cons rfl rfl (fun K h => WL.loadAO rfl rfl (by first | exact .here | exact .there .here | exact .there (.there .here) | exact .there (.there (.there .here)) | exact .there (.there (.there (.there .here))) | exact .there (.there (.there (.there (.there .here))))) (by rfl) h) ?_
      refine WR.cons rfl rfl (fun K h => WL.callp (says_pu p) rfl rfl rfl h) ?_
      refine WR.cons rfl rfl (fun K h => WL.mvB rfl rfl h) ?_
      refine WR.cons rfl rfl (fun K h => WL.guard rfl hA (WL.fieldO rfl rfl h)) ?_
      refine WR.cons rfl rfl (fun K h => WL.guard rfl hA (WL.load1O rfl rfl (by first | exact .here | exact .there .here | exact .there (.there .here) | exact .there (.there (.there .here)) | exact .there (.there (.there (.there .here))) | exact .there (.there (.there (.there (.there .here))))) (show _ = some (str _) from rfl) h)) ?_
      refine WR.cons rfl rfl (fun K h => WL.guard rfl hA (WL.eqlS rfl rfl rfl h)) ?_
      refine WR.cons rfl rfl (fun K h => WL.guard rfl hA (WL.mvB rfl rfl h)) ?_
      refine WR.cons rfl rfl (fun K h => WL.guard rfl hB (WL.fieldO rfl rfl h)) ?_
      refine WR.cons rfl rfl (fun K h => WL.guard rfl hB (WL.load1O rfl rfl (by first | exact .here | exact .there .here | exact .there (.there .here) | exact .there (.there (.there .here)) | exact .there (.there (.there (.there .here))) | exact .there (.there (.there (.there (.there .here))))) (show _ = some (str _) from rfl) h)) ?_
      refine WR.cons rfl rfl (fun K h => WL.guard rfl hB (WL.callp (capitals_pu _ h2) rfl rfl rfl h)) ?_
      refine WR.cons rfl rfl (fun K h => WL.guard rfl hB (WL.fieldO rfl rfl h)) ?_
      refine WR.cons rfl rfl (fun K h => WL.guard rfl hB (WL.load1O rfl rfl (by first | exact .here | exact .there .here | exact .there (.there .here) | exact .there (.there (.there .here)) | exact .there (.there (.there (.there .here))) | exact .there (.there (.there (.there (.there .here))))) (show _ = some (str _) from rfl) h)) ?_
      refine WR.cons rfl rfl (fun K h => WL.guard rfl hB (WL.neqS rfl rfl rfl h)) ?_
      refine WR.cons rfl rfl (fun K h => WL.guard rfl hA (WL.pickT rfl rfl hB rfl h)) ?_
      refine WR.cons rfl rfl (fun K h => WL.pickF rfl rfl hA rfl h) ?_
      refine WR.cons rfl rfl (fun K h => WL.asB rfl rfl h) ?_
      refine WR.nil ?_
      refine WL.nil ?_
      refine WK.ret ?_
      -- end
      refine WK.end1 rfl (show _ = .bool _ from rfl) ?_
      simp only [oddB, hA, hB, Bool.false_or, Bool.true_and]
    | false =>
      refine WK.drawn 16 #[[], [0], [0, 1], [0, 1, 2], [0, 1, 2, 3], [0, 1, 2, 3, 4], [0, 1, 2, 3, 4, 5], [0, 1, 2, 3, 4, 5, 6], [0, 1, 2, 3, 4, 5, 6, 7], [0, 1, 2, 3, 4, 5, 6, 7, 8], [0, 1, 2, 3, 4, 5, 6], [0, 1, 2, 3, 4, 5, 6, 10], [0, 1, 2, 3, 4, 5, 6, 7, 8, 9, 10, 11], [0, 1, 2, 3, 4, 5, 6, 7, 8, 9, 10, 11, 12], [0, 1, 2, 3, 4, 5, 6, 7, 8, 9, 10, 11, 12, 13], [0, 1, 2, 3, 4, 5, 6, 7, 8, 9, 10, 11, 12, 13, 14]] mixed_ok (by kernel_rfl) ?_
      refine WR.cons rfl rfl (fun K h => WL.loadAO rfl rfl (by first | exact .here | exact .there .here | exact .there (.there .here) | exact .there (.there (.there .here)) | exact .there (.there (.there (.there .here))) | exact .there (.there (.there (.there (.there .here))))) (by rfl) h) ?_
      refine WR.cons rfl rfl (fun K h => WL.callp (says_pu p) rfl rfl rfl h) ?_
      refine WR.cons rfl rfl (fun K h => WL.mvB rfl rfl h) ?_
      refine WR.cons rfl rfl (fun K h => WL.guard rfl hA (WL.fieldO rfl rfl h)) ?_
      refine WR.cons rfl rfl (fun K h => WL.guard rfl hA (WL.load1O rfl rfl (by first | exact .here | exact .there .here | exact .there (.there .here) | exact .there (.there (.there .here)) | exact .there (.there (.there (.there .here))) | exact .there (.there (.there (.there (.there .here))))) (show _ = some (str _) from rfl) h)) ?_
      refine WR.cons rfl rfl (fun K h => WL.guard rfl hA (WL.eqlS rfl rfl rfl h)) ?_
      refine WR.cons rfl rfl (fun K h => WL.guard rfl hA (WL.mvB rfl rfl h)) ?_
      refine WR.cons rfl rfl (fun K h => WL.guardSkip rfl hB rfl h) ?_
      refine WR.cons rfl rfl (fun K h => WL.guardSkip rfl hB rfl h) ?_
      refine WR.cons rfl rfl (fun K h => WL.guardSkip rfl hB rfl h) ?_
      refine WR.cons rfl rfl (fun K h => WL.guardSkip rfl hB rfl h) ?_
      refine WR.cons rfl rfl (fun K h => WL.guardSkip rfl hB rfl h) ?_
      refine WR.cons rfl rfl (fun K h => WL.guardSkip rfl hB rfl h) ?_
      refine WR.cons rfl rfl (fun K h => WL.guard rfl hA (WL.pickF rfl rfl hB rfl h)) ?_
      refine WR.cons rfl rfl (fun K h => WL.pickF rfl rfl hA rfl h) ?_
      refine WR.cons rfl rfl (fun K h => WL.asB rfl rfl h) ?_
      refine WR.nil ?_
      refine WL.nil ?_
      refine WK.ret ?_
      -- end
      refine WK.end1 rfl (show _ = .bool _ from rfl) ?_
      simp only [oddB, hA, hB, Bool.false_or, Bool.false_and]
end Go.SL
