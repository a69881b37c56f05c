/- The reference's answers about names, parameters (chapter 8): contracts, and what a right name and a right parameter is. -/
import Derived.Test.YtbigjpjmdkgjmaaDoorProp
namespace Go.SL
open Go Go.Proofs
set_option linter.unusedVariables false
set_option linter.unusedSimpArgs false

def nameOk (s : List UInt8) : Bool := !decide (s = []) && decide ((s.length : Int) ≤ 32) && isCap (s.headD 0) && s.all nameCh
def valCh (c : UInt8) : Bool := decide ((33 : Int) ≤ c.toNat) && decide ((c.toNat : Int) ≤ 126) && !decide ((c.toNat : Int) = 59) && !decide ((c.toNat : Int) = 58) && !decide ((c.toNat : Int) = 61)
def valOk (s : List UInt8) : Bool := !decide (s = []) && decide ((s.length : Int) ≤ 32) && s.all valCh
abbrev Par := List UInt8 × List UInt8
def parOk (p : Par) : Bool := (decide (p.1 = []) || nameOk p.1) && valOk p.2
def badCh (c : UInt8) : Bool := decide ((c.toNat : Int) = 0) || decide ((c.toNat : Int) = 10) || decide ((c.toNat : Int) = 13)

theorem all_take_succ {α : Type} {p : α → Bool} {l : List α} {k : Nat} (h : (l.take k).all p = true) (hlt : k < l.length) (hp : p l[k] = true) : (l.take (k + 1)).all p = true := by
  rw [List.take_succ_eq_append_getElem hlt, List.all_append, h]; simp [hp]
theorem all_false {α : Type} {p : α → Bool} {l : List α} {k : Nat} (hlt : k < l.length) (hp : p l[k] = false) : l.all p = false := by
  rw [List.all_eq_false]; exact ⟨_, List.getElem_mem hlt, by simp [hp]⟩

theorem letter_pu (c : UInt8) : Pu Tryd.prog 93 [byt c] (.bool (isCap c)) := by
  refine Pu.of Tryd.func93 Tryd.ntmps93 rfl rfl fun w => ?_
  refine WK.seq ?_
  refine WK.region ?_
  refine WL.asC rfl ?_
  refine WL.nil ?_
  refine WK.seq ?_
  refine WK.region ?_
  refine WL.mvI rfl rfl ?_
  refine WL.geq rfl rfl rfl ?_
  refine WL.mvB rfl rfl ?_
  refine WL.guardSplit rfl rfl (fun h1 => ?_) (fun h1 => ?_)
  · skip
    refine WL.mvI rfl rfl ?_
    refine WL.guard rfl h1 ?_
    refine WL.leq rfl rfl rfl ?_
    refine WL.pickT rfl rfl h1 rfl ?_
    refine WL.asB rfl rfl ?_
    refine WL.nil ?_
    refine WK.ret ?_
    refine WK.end1 rfl (show _ = .bool _ from rfl) ?_
    simp_all [isCap] <;> omega
  · skip
    refine WL.guardSkip rfl h1 rfl ?_
    refine WL.pickF rfl rfl h1 rfl ?_
    refine WL.asB rfl rfl ?_
    refine WL.nil ?_
    refine WK.ret ?_
    refine WK.end1 rfl (show _ = .bool _ from rfl) ?_
    simp_all [isCap] <;> omega
theorem odd8_pu (c : UInt8) : Pu Tryd.prog 77 [byt c] (.bool (badCh c)) := by
  refine Pu.of Tryd.func77 Tryd.ntmps77 rfl rfl fun w => ?_
  refine WK.seq ?_
  refine WK.region ?_
  refine WL.asC rfl ?_
  refine WL.nil ?_
  refine WK.seq ?_
  refine WK.region ?_
  refine WL.mvI rfl rfl ?_
  refine WL.eql rfl rfl rfl ?_
  refine WL.mvB rfl rfl ?_
  refine WL.guardSplit rfl rfl (fun h1 => ?_) (fun h1 => ?_)
  · skip
    refine WL.mvI rfl rfl ?_
    refine WL.guard rfl h1 ?_
    refine WL.eql rfl rfl rfl ?_
    refine WL.pickF rfl rfl h1 rfl ?_
    refine WL.mvB rfl rfl ?_
    refine WL.guardSplit rfl rfl (fun h2 => ?_) (fun h2 => ?_)
    · skip
      refine WL.mvI rfl rfl ?_
      refine WL.guard rfl h2 ?_
      refine WL.eql rfl rfl rfl ?_
      refine WL.pickF rfl rfl h2 rfl ?_
      refine WL.asB rfl rfl ?_
      refine WL.nil ?_
      refine WK.ret ?_
      refine WK.end1 rfl (show _ = .bool _ from rfl) ?_
      simp_all [badCh] <;> omega
    · skip
      refine WL.guardSkip rfl h2 rfl ?_
      refine WL.pickT rfl rfl h2 rfl ?_
      refine WL.asB rfl rfl ?_
      refine WL.nil ?_
      refine WK.ret ?_
      refine WK.end1 rfl (show _ = .bool _ from rfl) ?_
      simp_all [badCh] <;> omega
  · skip
    refine WL.guardSkip rfl h1 rfl ?_
    refine WL.pickT rfl rfl h1 rfl ?_
    refine WL.mvB rfl rfl ?_
    refine WL.guardSkip rfl rfl rfl ?_
    refine WL.guardSkip rfl rfl rfl ?_
    refine WL.pickT rfl rfl rfl rfl ?_
    refine WL.asB rfl rfl ?_
    refine WL.nil ?_
    refine WK.ret ?_
    refine WK.end1 rfl (show _ = .bool _ from rfl) ?_
    simp_all [badCh] <;> omega

theorem nameOk_bad {s : List UInt8} {k : Nat} (hlt : k < s.length) (h : nameCh s[k] = false) : nameOk s = false := by
  simp [nameOk, all_false hlt h]
theorem valOk_bad {s : List UInt8} {k : Nat} (hlt : k < s.length) (h : valCh s[k] = false) : valOk s = false := by
  simp [valOk, all_false hlt h]
theorem rname_pu (s : List UInt8) (hs : s.length ≤ 1000000000) : Pu Tryd.prog 75 [str s] (.bool (nameOk s)) := by
  refine Pu.of Tryd.func75 Tryd.ntmps75 rfl rfl fun w => ?_
  refine WK.seq ?_
  refine WK.region ?_
  refine WL.asC rfl ?_
  refine WL.nil ?_
  refine WK.seq ?_
  refine WK.seq ?_
  refine WK.region ?_
  refine WL.mvS rfl rfl ?_
  refine WL.eqlS rfl rfl rfl ?_
  refine WL.mvB rfl rfl ?_
  -- guard
  refine WL.guardSplit rfl rfl (fun h1 => ?_) (fun h1 => ?_)
  · refine WL.mvS rfl rfl ?_
    refine WL.guard rfl h1 ?_
    refine WL.lenS rfl rfl ?_
    refine WL.guard rfl h1 ?_
    refine WL.gtr rfl rfl rfl ?_
    refine WL.pickF rfl rfl h1 rfl ?_
    refine WL.mvB rfl rfl ?_
    -- guard
    refine WL.guardSplit rfl rfl (fun h2 => ?_) (fun h2 => ?_)
    · have hc : s[0]? = some (s.headD 0) := by cases s with | nil => simp at h1 | cons x l => rfl
      refine WL.mvS rfl rfl ?_
      refine WL.guard rfl h2 ?_
      refine WL.indexS rfl rfl rfl rfl hc ?_
      refine WL.guard rfl h2 ?_
      refine WL.callp (letter_pu _) rfl rfl rfl ?_
      refine WL.guard rfl h2 ?_
      refine WL.not rfl rfl ?_
      refine WL.pickF rfl rfl h2 rfl ?_
      refine WL.nil ?_
      -- cond
      refine WK.cond rfl (fun h3 => ?_) (fun h3 => ?_)
      · refine WK.seq ?_
        refine WK.region ?_
        refine WL.asC rfl ?_
        refine WL.nil ?_
        refine WK.ret ?_
        refine WK.ret_code ?_
        -- end
        refine WK.end1 rfl (show _ = .bool _ from rfl) ?_
        simp_all [nameOk]
      · skip
        refine WK.skip ?_
        refine WK.seq ?_
        refine WK.seq ?_
        refine WK.region ?_
        refine WL.asC rfl ?_
        refine WL.nil ?_
        refine WK.block ?_
        -- loop
        refine WK.loop (fun (k : Nat) => [(3, .int .i64 (k : Nat)), (0, str s)]) (fun _ _ => none) (fun _ => []) (fun k => k ≤ s.length ∧ (s.take k).all nameCh = true) (fun k => s.length - k) 0
          ⟨by omega, by simp⟩ ⟨rfl, rfl, trivial⟩ rfl rfl ?_
        rintro k ρ ⟨hk, hall⟩
        refine WK.seq ?_
        refine WK.seq ?_
        refine WK.region ?_
        refine WL.mvI rfl rfl ?_
        refine WL.mvS rfl rfl ?_
        refine WL.lenS rfl rfl ?_
        refine WL.lss rfl rfl rfl ?_
        refine WL.nil ?_
        -- cond
        refine WK.cond rfl (fun h => ?_) (fun h => ?_)
        · have hlt : k < s.length := by simpa using h
          have hc : s[k]? = some s[k] := by simp [hlt]
          clear h3
          refine WK.skip ?_
          refine WK.seq ?_
          refine WK.block ?_
          refine WK.seq ?_
          refine WK.region ?_
          refine WL.mvS rfl rfl ?_
          refine WL.mvI rfl rfl ?_
          refine WL.indexS rfl rfl rfl rfl (by assumption) ?_
          refine WL.callp (letter_pu _) rfl rfl rfl ?_
          refine WL.not rfl rfl ?_
          refine WL.mvB rfl rfl ?_
          refine WL.guardSplit rfl rfl (fun h1 => ?_) (fun h1 => ?_)
          · skip
            refine WL.mvS rfl rfl ?_
            refine WL.guard rfl h1 ?_
            refine WL.mvI rfl rfl ?_
            refine WL.guard rfl h1 ?_
            refine WL.indexS rfl rfl rfl rfl (by assumption) ?_
            refine WL.guard rfl h1 ?_
            refine WL.lss rfl rfl rfl ?_
            refine WL.guard rfl h1 ?_
            refine WL.mvB rfl rfl ?_
            refine WL.guardSplit rfl rfl (fun h2 => ?_) (fun h2 => ?_)
            · skip
              refine WL.mvS rfl rfl ?_
              refine WL.guard rfl h2 ?_
              refine WL.mvI rfl rfl ?_
              refine WL.guard rfl h2 ?_
              refine WL.indexS rfl rfl rfl rfl (by assumption) ?_
              refine WL.guard rfl h2 ?_
              refine WL.gtr rfl rfl rfl ?_
              refine WL.guard rfl h1 ?_
              refine WL.pickF rfl rfl h2 rfl ?_
              refine WL.pickT rfl rfl h1 rfl ?_
              refine WL.mvB rfl rfl ?_
              refine WL.guardSplit rfl rfl (fun h3 => ?_) (fun h3 => ?_)
              · skip
                refine WL.mvS rfl rfl ?_
                refine WL.guard rfl h3 ?_
                refine WL.mvI rfl rfl ?_
                refine WL.guard rfl h3 ?_
                refine WL.indexS rfl rfl rfl rfl (by assumption) ?_
                refine WL.guard rfl h3 ?_
                refine WL.neq rfl rfl rfl ?_
                refine WL.pickT rfl rfl h3 rfl ?_
                refine WL.nil ?_
                refine WK.cond rfl (fun h4 => ?_) (fun h4 => ?_)
                · skip
                  refine WK.seq ?_
                  refine WK.region ?_
                  refine WL.asC rfl ?_
                  refine WL.nil ?_
                  refine WK.ret ?_
                  refine WK.ret_blk ?_
                  refine WK.ret_code ?_
                  refine WK.ret_lp ?_
                  refine WK.ret_blk ?_
                  refine WK.ret_code ?_
                  refine WK.end1 rfl (show _ = .bool _ from rfl) ?_
                  exact congrArg Value.bool (nameOk_bad hlt (by simp_all [nameCh, isDig] <;> omega)).symm
                · skip
                  refine WK.skip ?_
                  refine WK.blk ?_
                  refine WK.region ?_
                  refine WL.mvI rfl rfl ?_
                  refine WL.add rfl rfl rfl (by omega) ?_
                  refine WL.asI rfl rfl ?_
                  refine WL.nil ?_
                  exact WK.again (k + 1) ⟨by omega, all_take_succ hall hlt (by simp_all [nameCh, isDig] <;> omega)⟩ (by omega) ⟨rfl, rfl, trivial⟩ rfl rfl
              · skip
                refine WL.guardSkip rfl h3 rfl ?_
                refine WL.guardSkip rfl h3 rfl ?_
                refine WL.guardSkip rfl h3 rfl ?_
                refine WL.pickF rfl rfl h3 rfl ?_
                refine WL.nil ?_
                refine WK.cond_f rfl ?_
                refine WK.skip ?_
                refine WK.blk ?_
                refine WK.region ?_
                refine WL.mvI rfl rfl ?_
                refine WL.add rfl rfl rfl (by omega) ?_
                refine WL.asI rfl rfl ?_
                refine WL.nil ?_
                exact WK.again (k + 1) ⟨by omega, all_take_succ hall hlt (by simp_all [nameCh, isDig] <;> omega)⟩ (by omega) ⟨rfl, rfl, trivial⟩ rfl rfl
            · skip
              refine WL.guardSkip rfl h2 rfl ?_
              refine WL.guardSkip rfl h2 rfl ?_
              refine WL.guardSkip rfl h2 rfl ?_
              refine WL.guard rfl h1 ?_
              refine WL.pickT rfl rfl h2 rfl ?_
              refine WL.pickT rfl rfl h1 rfl ?_
              refine WL.mvB rfl rfl ?_
              refine WL.guard rfl rfl ?_
              refine WL.mvS rfl rfl ?_
              refine WL.guard rfl rfl ?_
              refine WL.mvI rfl rfl ?_
              refine WL.guard rfl rfl ?_
              refine WL.indexS rfl rfl rfl rfl (by assumption) ?_
              refine WL.guard rfl rfl ?_
              refine WL.neq rfl rfl rfl ?_
              refine WL.pickT rfl rfl rfl rfl ?_
              refine WL.nil ?_
              refine WK.cond rfl (fun h3 => ?_) (fun h3 => ?_)
              · skip
                refine WK.seq ?_
                refine WK.region ?_
                refine WL.asC rfl ?_
                refine WL.nil ?_
                refine WK.ret ?_
                refine WK.ret_blk ?_
                refine WK.ret_code ?_
                refine WK.ret_lp ?_
                refine WK.ret_blk ?_
                refine WK.ret_code ?_
                refine WK.end1 rfl (show _ = .bool _ from rfl) ?_
                exact congrArg Value.bool (nameOk_bad hlt (by simp_all [nameCh, isDig] <;> omega)).symm
              · skip
                refine WK.skip ?_
                refine WK.blk ?_
                refine WK.region ?_
                refine WL.mvI rfl rfl ?_
                refine WL.add rfl rfl rfl (by omega) ?_
                refine WL.asI rfl rfl ?_
                refine WL.nil ?_
                exact WK.again (k + 1) ⟨by omega, all_take_succ hall hlt (by simp_all [nameCh, isDig] <;> omega)⟩ (by omega) ⟨rfl, rfl, trivial⟩ rfl rfl
          · skip
            refine WL.guardSkip rfl h1 rfl ?_
            refine WL.guardSkip rfl h1 rfl ?_
            refine WL.guardSkip rfl h1 rfl ?_
            refine WL.guardSkip rfl h1 rfl ?_
            refine WL.guardNone rfl rfl ?_
            refine WL.guardNone rfl rfl ?_
            refine WL.guardNone rfl rfl ?_
            refine WL.guardNone rfl rfl ?_
            refine WL.guardSkip rfl h1 rfl ?_
            refine WL.pickF rfl rfl h1 rfl ?_
            refine WL.mvB rfl rfl ?_
            refine WL.guardSkip rfl rfl rfl ?_
            refine WL.guardSkip rfl rfl rfl ?_
            refine WL.guardSkip rfl rfl rfl ?_
            refine WL.guardSkip rfl rfl rfl ?_
            refine WL.pickF rfl rfl rfl rfl ?_
            refine WL.nil ?_
            refine WK.cond_f rfl ?_
            refine WK.skip ?_
            refine WK.blk ?_
            refine WK.region ?_
            refine WL.mvI rfl rfl ?_
            refine WL.add rfl rfl rfl (by omega) ?_
            refine WL.asI rfl rfl ?_
            refine WL.nil ?_
            exact WK.again (k + 1) ⟨by omega, all_take_succ hall hlt (by simp_all [nameCh, isDig] <;> omega)⟩ (by omega) ⟨rfl, rfl, trivial⟩ rfl rfl
        · skip
          refine WK.exit ?_
          refine WK.exit_code ?_
          refine WK.exit_lp ?_
          refine WK.exit_hit ?_
          refine WK.seq ?_
          refine WK.region ?_
          refine WL.asC rfl ?_
          refine WL.nil ?_
          refine WK.ret ?_
          -- end
          refine WK.end1 rfl (show _ = .bool _ from rfl) ?_
          have hk2 : k = s.length := by simp at h; omega
          subst hk2
          rw [List.take_length] at hall
          simp_all [nameOk]
    · skip
      refine WL.guardSkip rfl h2 rfl ?_
      refine WL.guardSkip rfl h2 rfl ?_
      refine WL.guardSkip rfl h2 rfl ?_
      refine WL.pickT rfl rfl h2 rfl ?_
      refine WL.nil ?_
      refine WK.cond_t rfl ?_
      refine WK.seq ?_
      refine WK.region ?_
      refine WL.asC rfl ?_
      refine WL.nil ?_
      refine WK.ret ?_
      refine WK.ret_code ?_
      -- end
      refine WK.end1 rfl (show _ = .bool _ from rfl) ?_
      simp_all [nameOk]; intros; omega
  · skip
    refine WL.guardSkip rfl h1 rfl ?_
    refine WL.guardSkip rfl h1 rfl ?_
    refine WL.pickT rfl rfl h1 rfl ?_
    refine WL.mvB rfl rfl ?_
    refine WL.guardSkip rfl rfl rfl ?_
    refine WL.guardSkip rfl rfl rfl ?_
    refine WL.guardSkip rfl rfl rfl ?_
    refine WL.guardSkip rfl rfl rfl ?_
    refine WL.pickT rfl rfl rfl rfl ?_
    refine WL.nil ?_
    refine WK.cond_t rfl ?_
    refine WK.seq ?_
    refine WK.region ?_
    refine WL.asC rfl ?_
    refine WL.nil ?_
    refine WK.ret ?_
    refine WK.ret_code ?_
    -- end
    refine WK.end1 rfl (show _ = .bool _ from rfl) ?_
    simp_all [nameOk]
theorem rvalue_pu (s : List UInt8) (hs : s.length ≤ 1000000000) : Pu Tryd.prog 94 [str s] (.bool (valOk s)) := by
  refine Pu.of Tryd.func94 Tryd.ntmps94 rfl rfl fun w => ?_
  refine WK.seq ?_
  refine WK.region ?_
  refine WL.asC rfl ?_
  refine WL.nil ?_
  refine WK.seq ?_
  refine WK.seq ?_
  refine WK.region ?_
  refine WL.mvS rfl rfl ?_
  refine WL.eqlS rfl rfl rfl ?_
  refine WL.mvB rfl rfl ?_
  -- guard
  refine WL.guardSplit rfl rfl (fun h1 => ?_) (fun h1 => ?_)
  · refine WL.mvS rfl rfl ?_
    refine WL.guard rfl h1 ?_
    refine WL.lenS rfl rfl ?_
    refine WL.guard rfl h1 ?_
    refine WL.gtr rfl rfl rfl ?_
    refine WL.pickF rfl rfl h1 rfl ?_
    refine WL.nil ?_
    -- cond
    refine WK.cond rfl (fun h2 => ?_) (fun h2 => ?_)
    · refine WK.seq ?_
      refine WK.region ?_
      refine WL.asC rfl ?_
      refine WL.nil ?_
      refine WK.ret ?_
      refine WK.ret_code ?_
      -- end
      refine WK.end1 rfl (show _ = .bool _ from rfl) ?_
      simp_all [valOk]; intros; omega
    · skip
      refine WK.skip ?_
      refine WK.seq ?_
      refine WK.seq ?_
      refine WK.region ?_
      refine WL.asC rfl ?_
      refine WL.nil ?_
      refine WK.block ?_
      -- loop
      refine WK.loop (fun (k : Nat) => [(3, .int .i64 (k : Nat)), (0, str s)]) (fun _ _ => none) (fun _ => []) (fun k => k ≤ s.length ∧ (s.take k).all valCh = true) (fun k => s.length - k) 0
        ⟨by omega, by simp⟩ ⟨rfl, rfl, trivial⟩ rfl rfl ?_
      rintro k ρ ⟨hk, hall⟩
      refine WK.seq ?_
      refine WK.seq ?_
      refine WK.region ?_
      refine WL.mvI rfl rfl ?_
      refine WL.mvS rfl rfl ?_
      refine WL.lenS rfl rfl ?_
      refine WL.lss rfl rfl rfl ?_
      refine WL.nil ?_
      -- cond
      refine WK.cond rfl (fun h => ?_) (fun h => ?_)
      · have hlt : k < s.length := by simpa using h
        have hc : s[k]? = some s[k] := by simp [hlt]
        clear h1 h2
        refine WK.skip ?_
        refine WK.seq ?_
        refine WK.block ?_
        refine WK.seq ?_
        refine WK.region ?_
        refine WL.mvS rfl rfl ?_
        refine WL.mvI rfl rfl ?_
        refine WL.indexS rfl rfl rfl rfl (by assumption) ?_
        refine WL.lss rfl rfl rfl ?_
        refine WL.mvB rfl rfl ?_
        refine WL.guardSplit rfl rfl (fun h1 => ?_) (fun h1 => ?_)
        · skip
          refine WL.mvS rfl rfl ?_
          refine WL.guard rfl h1 ?_
          refine WL.mvI rfl rfl ?_
          refine WL.guard rfl h1 ?_
          refine WL.indexS rfl rfl rfl rfl (by assumption) ?_
          refine WL.guard rfl h1 ?_
          refine WL.gtr rfl rfl rfl ?_
          refine WL.pickF rfl rfl h1 rfl ?_
          refine WL.mvB rfl rfl ?_
          refine WL.guardSplit rfl rfl (fun h2 => ?_) (fun h2 => ?_)
          · skip
            refine WL.mvS rfl rfl ?_
            refine WL.guard rfl h2 ?_
            refine WL.mvI rfl rfl ?_
            refine WL.guard rfl h2 ?_
            refine WL.indexS rfl rfl rfl rfl (by assumption) ?_
            refine WL.guard rfl h2 ?_
            refine WL.eql rfl rfl rfl ?_
            refine WL.pickF rfl rfl h2 rfl ?_
            refine WL.mvB rfl rfl ?_
            refine WL.guardSplit rfl rfl (fun h3 => ?_) (fun h3 => ?_)
            · skip
              refine WL.mvS rfl rfl ?_
              refine WL.guard rfl h3 ?_
              refine WL.mvI rfl rfl ?_
              refine WL.guard rfl h3 ?_
              refine WL.indexS rfl rfl rfl rfl (by assumption) ?_
              refine WL.guard rfl h3 ?_
              refine WL.eql rfl rfl rfl ?_
              refine WL.pickF rfl rfl h3 rfl ?_
              refine WL.mvB rfl rfl ?_
              refine WL.guardSplit rfl rfl (fun h4 => ?_) (fun h4 => ?_)
              · skip
                refine WL.mvS rfl rfl ?_
                refine WL.guard rfl h4 ?_
                refine WL.mvI rfl rfl ?_
                refine WL.guard rfl h4 ?_
                refine WL.indexS rfl rfl rfl rfl (by assumption) ?_
                refine WL.guard rfl h4 ?_
                refine WL.eql rfl rfl rfl ?_
                refine WL.pickF rfl rfl h4 rfl ?_
                refine WL.nil ?_
                refine WK.cond rfl (fun h5 => ?_) (fun h5 => ?_)
                · skip
                  refine WK.seq ?_
                  refine WK.region ?_
                  refine WL.asC rfl ?_
                  refine WL.nil ?_
                  refine WK.ret ?_
                  refine WK.ret_blk ?_
                  refine WK.ret_code ?_
                  refine WK.ret_lp ?_
                  refine WK.ret_blk ?_
                  refine WK.ret_code ?_
                  refine WK.end1 rfl (show _ = .bool _ from rfl) ?_
                  exact congrArg Value.bool (valOk_bad hlt (by simp_all [valCh] <;> omega)).symm
                · skip
                  refine WK.skip ?_
                  refine WK.blk ?_
                  refine WK.region ?_
                  refine WL.mvI rfl rfl ?_
                  refine WL.add rfl rfl rfl (by omega) ?_
                  refine WL.asI rfl rfl ?_
                  refine WL.nil ?_
                  exact WK.again (k + 1) ⟨by omega, all_take_succ hall hlt (by simp_all [valCh] <;> omega)⟩ (by omega) ⟨rfl, rfl, trivial⟩ rfl rfl
              · skip
                refine WL.guardSkip rfl h4 rfl ?_
                refine WL.guardSkip rfl h4 rfl ?_
                refine WL.guardSkip rfl h4 rfl ?_
                refine WL.pickT rfl rfl h4 rfl ?_
                refine WL.nil ?_
                refine WK.cond_t rfl ?_
                refine WK.seq ?_
                refine WK.region ?_
                refine WL.asC rfl ?_
                refine WL.nil ?_
                refine WK.ret ?_
                refine WK.ret_blk ?_
                refine WK.ret_code ?_
                refine WK.ret_lp ?_
                refine WK.ret_blk ?_
                refine WK.ret_code ?_
                refine WK.end1 rfl (show _ = .bool _ from rfl) ?_
                exact congrArg Value.bool (valOk_bad hlt (by simp_all [valCh] <;> omega)).symm
            · skip
              refine WL.guardSkip rfl h3 rfl ?_
              refine WL.guardSkip rfl h3 rfl ?_
              refine WL.guardSkip rfl h3 rfl ?_
              refine WL.pickT rfl rfl h3 rfl ?_
              refine WL.mvB rfl rfl ?_
              refine WL.guardSkip rfl rfl rfl ?_
              refine WL.guardSkip rfl rfl rfl ?_
              refine WL.guardSkip rfl rfl rfl ?_
              refine WL.guardSkip rfl rfl rfl ?_
              refine WL.pickT rfl rfl rfl rfl ?_
              refine WL.nil ?_
              refine WK.cond_t rfl ?_
              refine WK.seq ?_
              refine WK.region ?_
              refine WL.asC rfl ?_
              refine WL.nil ?_
              refine WK.ret ?_
              refine WK.ret_blk ?_
              refine WK.ret_code ?_
              refine WK.ret_lp ?_
              refine WK.ret_blk ?_
              refine WK.ret_code ?_
              refine WK.end1 rfl (show _ = .bool _ from rfl) ?_
              exact congrArg Value.bool (valOk_bad hlt (by simp_all [valCh] <;> omega)).symm
          · skip
            refine WL.guardSkip rfl h2 rfl ?_
            refine WL.guardSkip rfl h2 rfl ?_
            refine WL.guardSkip rfl h2 rfl ?_
            refine WL.pickT rfl rfl h2 rfl ?_
            refine WL.mvB rfl rfl ?_
            refine WL.guardSkip rfl rfl rfl ?_
            refine WL.guardSkip rfl rfl rfl ?_
            refine WL.guardSkip rfl rfl rfl ?_
            refine WL.guardSkip rfl rfl rfl ?_
            refine WL.pickT rfl rfl rfl rfl ?_
            refine WL.mvB rfl rfl ?_
            refine WL.guardSkip rfl rfl rfl ?_
            refine WL.guardSkip rfl rfl rfl ?_
            refine WL.guardSkip rfl rfl rfl ?_
            refine WL.guardSkip rfl rfl rfl ?_
            refine WL.pickT rfl rfl rfl rfl ?_
            refine WL.nil ?_
            refine WK.cond_t rfl ?_
            refine WK.seq ?_
            refine WK.region ?_
            refine WL.asC rfl ?_
            refine WL.nil ?_
            refine WK.ret ?_
            refine WK.ret_blk ?_
            refine WK.ret_code ?_
            refine WK.ret_lp ?_
            refine WK.ret_blk ?_
            refine WK.ret_code ?_
            refine WK.end1 rfl (show _ = .bool _ from rfl) ?_
            exact congrArg Value.bool (valOk_bad hlt (by simp_all [valCh] <;> omega)).symm
        · skip
          refine WL.guardSkip rfl h1 rfl ?_
          refine WL.guardSkip rfl h1 rfl ?_
          refine WL.guardSkip rfl h1 rfl ?_
          refine WL.pickT rfl rfl h1 rfl ?_
          refine WL.mvB rfl rfl ?_
          refine WL.guardSkip rfl rfl rfl ?_
          refine WL.guardSkip rfl rfl rfl ?_
          refine WL.guardSkip rfl rfl rfl ?_
          refine WL.guardSkip rfl rfl rfl ?_
          refine WL.pickT rfl rfl rfl rfl ?_
          refine WL.mvB rfl rfl ?_
          refine WL.guardSkip rfl rfl rfl ?_
          refine WL.guardSkip rfl rfl rfl ?_
          refine WL.guardSkip rfl rfl rfl ?_
          refine WL.guardSkip rfl rfl rfl ?_
          refine WL.pickT rfl rfl rfl rfl ?_
          refine WL.mvB rfl rfl ?_
          refine WL.guardSkip rfl rfl rfl ?_
          refine WL.guardSkip rfl rfl rfl ?_
          refine WL.guardSkip rfl rfl rfl ?_
          refine WL.guardSkip rfl rfl rfl ?_
          refine WL.pickT rfl rfl rfl rfl ?_
          refine WL.nil ?_
          refine WK.cond_t rfl ?_
          refine WK.seq ?_
          refine WK.region ?_
          refine WL.asC rfl ?_
          refine WL.nil ?_
          refine WK.ret ?_
          refine WK.ret_blk ?_
          refine WK.ret_code ?_
          refine WK.ret_lp ?_
          refine WK.ret_blk ?_
          refine WK.ret_code ?_
          refine WK.end1 rfl (show _ = .bool _ from rfl) ?_
          exact congrArg Value.bool (valOk_bad hlt (by simp_all [valCh] <;> omega)).symm
      · skip
        refine WK.exit ?_
        refine WK.exit_code ?_
        refine WK.exit_lp ?_
        refine WK.exit_hit ?_
        refine WK.seq ?_
        refine WK.region ?_
        refine WL.asC rfl ?_
        refine WL.nil ?_
        refine WK.ret ?_
        -- end
        refine WK.end1 rfl (show _ = .bool _ from rfl) ?_
        have hk2 : k = s.length := by simp at h; omega
        subst hk2
        rw [List.take_length] at hall
        simp_all [valOk]
  · skip
    refine WL.guardSkip rfl h1 rfl ?_
    refine WL.guardSkip rfl h1 rfl ?_
    refine WL.pickT rfl rfl h1 rfl ?_
    refine WL.nil ?_
    refine WK.cond_t rfl ?_
    refine WK.seq ?_
    refine WK.region ?_
    refine WL.asC rfl ?_
    refine WL.nil ?_
    refine WK.ret ?_
    refine WK.ret_code ?_
    -- end
    refine WK.end1 rfl (show _ = .bool _ from rfl) ?_
    simp_all [valOk]
def parV (p : Par) : Value := .agg #[str p.1, str p.2]
theorem rparam_pu (p : Par) (h1 : p.1.length ≤ 1000000000) (h2 : p.2.length ≤ 1000000000) : Pu Tryd.prog 76 [parV p] (.bool (parOk p)) := by
  refine Pu.of Tryd.func76 Tryd.ntmps76 rfl rfl fun w => ?_
  refine WK.seq ?_
  refine WK.region ?_
  refine WL.box rfl rfl fun b1 => ?_
  refine WL.asC rfl ?_
  refine WL.nil ?_
  refine WK.seq ?_
  refine WK.region ?_
  refine WL.fieldO rfl rfl ?_
  refine WL.load1O rfl rfl (by first | exact .here | exact .there .here | exact .there (.there .here) | exact .there (.there (.there .here)) | exact .there (.there (.there (.there .here))) | exact .there (.there (.there (.there (.there .here))))) (show _ = some (str _) from rfl) ?_
  refine WL.eqlS rfl rfl rfl ?_
  refine WL.mvB rfl rfl ?_
  refine WL.guardSplit rfl rfl (fun h1 => ?_) (fun h1 => ?_)
  · skip
    refine WL.fieldO rfl rfl ?_
    refine WL.guard rfl h1 ?_
    refine WL.load1O rfl rfl (by first | exact .here | exact .there .here | exact .there (.there .here) | exact .there (.there (.there .here)) | exact .there (.there (.there (.there .here))) | exact .there (.there (.there (.there (.there .here))))) (show _ = some (str _) from rfl) ?_
    refine WL.guard rfl h1 ?_
    refine WL.callp (rname_pu _ (by omega)) rfl rfl rfl ?_
    refine WL.pickF rfl rfl h1 rfl ?_
    refine WL.mvB rfl rfl ?_
    refine WL.guardSplit rfl rfl (fun h2 => ?_) (fun h2 => ?_)
    · skip
      refine WL.fieldO rfl rfl ?_
      refine WL.guard rfl h2 ?_
      refine WL.load1O rfl rfl (by first | exact .here | exact .there .here | exact .there (.there .here) | exact .there (.there (.there .here)) | exact .there (.there (.there (.there .here))) | exact .there (.there (.there (.there (.there .here))))) (show _ = some (str _) from rfl) ?_
      refine WL.guard rfl h2 ?_
      refine WL.callp (rvalue_pu _ (by omega)) rfl rfl rfl ?_
      refine WL.pickT rfl rfl h2 rfl ?_
      refine WL.asB rfl rfl ?_
      refine WL.nil ?_
      refine WK.ret ?_
      refine WK.end1 rfl (show _ = .bool _ from rfl) ?_
      simp_all [parOk]
    · skip
      refine WL.guardSkip rfl h2 rfl ?_
      refine WL.guardSkip rfl h2 rfl ?_
      refine WL.pickF rfl rfl h2 rfl ?_
      refine WL.asB rfl rfl ?_
      refine WL.nil ?_
      refine WK.ret ?_
      refine WK.end1 rfl (show _ = .bool _ from rfl) ?_
      simp_all [parOk]
  · skip
    refine WL.guardSkip rfl h1 rfl ?_
    refine WL.guardSkip rfl h1 rfl ?_
    refine WL.pickT rfl rfl h1 rfl ?_
    refine WL.mvB rfl rfl ?_
    refine WL.guard rfl rfl ?_
    refine WL.fieldO rfl rfl ?_
    refine WL.guard rfl rfl ?_
    refine WL.load1O rfl rfl (by first | exact .here | exact .there .here | exact .there (.there .here) | exact .there (.there (.there .here)) | exact .there (.there (.there (.there .here))) | exact .there (.there (.there (.there (.there .here))))) (show _ = some (str _) from rfl) ?_
    refine WL.guard rfl rfl ?_
    refine WL.callp (rvalue_pu _ (by omega)) rfl rfl rfl ?_
    refine WL.pickT rfl rfl rfl rfl ?_
    refine WL.asB rfl rfl ?_
    refine WL.nil ?_
    refine WK.ret ?_
    refine WK.end1 rfl (show _ = .bool _ from rfl) ?_
    simp_all [parOk]
end Go.SL
