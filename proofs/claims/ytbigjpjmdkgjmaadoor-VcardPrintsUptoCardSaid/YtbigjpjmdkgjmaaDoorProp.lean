/- The functions of package prop that look at names, parameters and properties: contracts. -/
import Derived.Test.YtbigjpjmdkgjmaaDoorTys
import Derived.Test.YtbigjpjmdkgjmaaDoorSlDraw
namespace Go.SL
open Go Go.Proofs
set_option linter.unusedVariables false
set_option linter.unusedSimpArgs false

def isCap (c : UInt8) : Bool := decide ((65 : Int) ≤ c.toNat) && decide ((c.toNat : Int) ≤ 90)
def isDig (c : UInt8) : Bool := decide ((48 : Int) ≤ c.toNat) && decide ((c.toNat : Int) ≤ 57)
def nameCh (c : UInt8) : Bool := isCap c || isDig c || decide ((c.toNat : Int) = 45)
/-- The first place of a list where p holds, as Go tells it. -/
def idx {α : Type} (p : α → Bool) : List α → Int
  | [] => -1
  | x :: l => if p x then 0 else if idx p l < 0 then -1 else idx p l + 1
theorem idx_neg {α : Type} (p : α → Bool) (l : List α) : decide (0 ≤ idx p l) = l.any p := by
  induction l with
  | nil => rfl
  | cons x l ih =>
    simp only [idx, List.any_cons]
    by_cases h : p x
    · simp [h]
    · by_cases h2 : idx p l < 0
      · have : decide (0 ≤ idx p l) = false := by simp; omega
        rw [this] at ih
        simp [h, h2, ← ih]
      · have : decide (0 ≤ idx p l) = true := by simp; omega
        rw [this] at ih
        simp [h, h2, ← ih]; omega

theorem capital_pu (c : UInt8) : Pu Tryd.prog 80 [byt c] (.bool (isCap c)) := by
  refine Pu.of Tryd.func80 Tryd.ntmps80 rfl rfl fun w => ?_
  refine WK.seq ?_
  refine WK.region ?_
  refine WL.asC rfl ?_
  refine WL.nil ?_
  refine WK.seq ?_
  refine WK.region ?_
  refine WL.mvI rfl rfl ?_
  refine WL.geq rfl rfl rfl ?_
  refine WL.mvB rfl rfl ?_
  refine WL.guardSplit rfl rfl (fun h1 => ?_) (fun h1 => ?_)
  · skip
    refine WL.mvI rfl rfl ?_
    refine WL.guard rfl h1 ?_
    refine WL.leq rfl rfl rfl ?_
    refine WL.pickT rfl rfl h1 rfl ?_
    refine WL.asB rfl rfl ?_
    refine WL.nil ?_
    refine WK.ret ?_
    refine WK.end1 rfl (show _ = .bool _ from rfl) ?_
    simp_all [isCap] <;> omega
  · skip
    refine WL.guardSkip rfl h1 rfl ?_
    refine WL.pickF rfl rfl h1 rfl ?_
    refine WL.asB rfl rfl ?_
    refine WL.nil ?_
    refine WK.ret ?_
    refine WK.end1 rfl (show _ = .bool _ from rfl) ?_
    simp_all [isCap] <;> omega
theorem nameF_pu (c : UInt8) : Pu Tryd.prog 81 [byt c] (.bool (!nameCh c)) := by
  refine Pu.of Tryd.func81 Tryd.ntmps81 rfl rfl fun w => ?_
  refine WK.seq ?_
  refine WK.region ?_
  refine WL.asC rfl ?_
  refine WL.nil ?_
  refine WK.seq ?_
  refine WK.region ?_
  refine WL.mvI rfl rfl ?_
  refine WL.callp (capital_pu _) rfl rfl rfl ?_
  refine WL.not rfl rfl ?_
  refine WL.mvB rfl rfl ?_
  refine WL.guardSplit rfl rfl (fun h1 => ?_) (fun h1 => ?_)
  · skip
    refine WL.mvI rfl rfl ?_
    refine WL.guard rfl h1 ?_
    refine WL.geq rfl rfl rfl ?_
    refine WL.guard rfl h1 ?_
    refine WL.mvB rfl rfl ?_
    refine WL.guardSplit rfl rfl (fun h2 => ?_) (fun h2 => ?_)
    · skip
      refine WL.mvI rfl rfl ?_
      refine WL.guard rfl h2 ?_
      refine WL.leq rfl rfl rfl ?_
      refine WL.guard rfl h1 ?_
      refine WL.pickT rfl rfl h2 rfl ?_
      refine WL.guard rfl h1 ?_
      refine WL.not rfl rfl ?_
      refine WL.pickT rfl rfl h1 rfl ?_
      refine WL.mvB rfl rfl ?_
      refine WL.guardSplit rfl rfl (fun h3 => ?_) (fun h3 => ?_)
      · skip
        refine WL.mvI rfl rfl ?_
        refine WL.guard rfl h3 ?_
        refine WL.neq rfl rfl rfl ?_
        refine WL.pickT rfl rfl h3 rfl ?_
        refine WL.asB rfl rfl ?_
        refine WL.nil ?_
        refine WK.ret ?_
        refine WK.end1 rfl (show _ = .bool _ from rfl) ?_
        simp_all [nameCh, isDig] <;> omega
      · skip
        refine WL.guardSkip rfl h3 rfl ?_
        refine WL.pickF rfl rfl h3 rfl ?_
        refine WL.asB rfl rfl ?_
        refine WL.nil ?_
        refine WK.ret ?_
        refine WK.end1 rfl (show _ = .bool _ from rfl) ?_
        simp_all [nameCh, isDig] <;> omega
    · skip
      refine WL.guardSkip rfl h2 rfl ?_
      refine WL.guard rfl h1 ?_
      refine WL.pickF rfl rfl h2 rfl ?_
      refine WL.guard rfl h1 ?_
      refine WL.not rfl rfl ?_
      refine WL.pickT rfl rfl h1 rfl ?_
      refine WL.mvB rfl rfl ?_
      refine WL.guardSplit rfl rfl (fun h3 => ?_) (fun h3 => ?_)
      · skip
        refine WL.mvI rfl rfl ?_
        refine WL.guard rfl h3 ?_
        refine WL.neq rfl rfl rfl ?_
        refine WL.pickT rfl rfl h3 rfl ?_
        refine WL.asB rfl rfl ?_
        refine WL.nil ?_
        refine WK.ret ?_
        refine WK.end1 rfl (show _ = .bool _ from rfl) ?_
        simp_all [nameCh, isDig] <;> omega
      · skip
        refine WL.guardSkip rfl h3 rfl ?_
        refine WL.pickF rfl rfl h3 rfl ?_
        refine WL.asB rfl rfl ?_
        refine WL.nil ?_
        refine WK.ret ?_
        refine WK.end1 rfl (show _ = .bool _ from rfl) ?_
        simp_all [nameCh, isDig] <;> omega
  · skip
    refine WL.guardSkip rfl h1 rfl ?_
    refine WL.guardSkip rfl h1 rfl ?_
    refine WL.guardNone rfl rfl ?_
    refine WL.guardNone rfl rfl ?_
    refine WL.guardSkip rfl h1 rfl ?_
    refine WL.guardSkip rfl h1 rfl ?_
    refine WL.pickF rfl rfl h1 rfl ?_
    refine WL.mvB rfl rfl ?_
    refine WL.guardSkip rfl rfl rfl ?_
    refine WL.guardSkip rfl rfl rfl ?_
    refine WL.pickF rfl rfl rfl rfl ?_
    refine WL.asB rfl rfl ?_
    refine WL.nil ?_
    refine WK.ret ?_
    refine WK.end1 rfl (show _ = .bool _ from rfl) ?_
    simp_all [nameCh, isDig] <;> omega


theorem idx_bd {α : Type} (p : α → Bool) (l : List α) : -1 ≤ idx p l ∧ idx p l < l.length := by
  induction l with
  | nil => simp [idx]
  | cons x l ih => simp only [idx, List.length_cons]; split <;> first | omega | (split <;> omega)
theorem idx_drop {α : Type} (p : α → Bool) (l : List α) (k : Nat) (h : ∀ i x, i < k → l[i]? = some x → p x = false) : idx p l = if idx p (l.drop k) < 0 then -1 else idx p (l.drop k) + k := by
  induction k generalizing l with
  | zero => have := idx_bd p l; simp; omega
  | succ k ih =>
    cases l with
    | nil => simp [idx]
    | cons x l =>
      have h0 : p x = false := h 0 x (by omega) rfl
      have hl := ih l fun i y hi hy => h (i + 1) y (by omega) (by simpa using hy)
      simp only [idx, h0, List.drop_succ_cons, Bool.false_eq_true, if_false]
      rw [hl]
      have := idx_bd p (l.drop k)
      (repeat' split) <;> omega

/-- slices.IndexFunc over bytes, the function one that only computes. -/
theorem indexFuncB {R : Nat → Obj → Prop} {v : Value} {l : List UInt8} (hs : Sl R 1 v (l.map byt)) (p : UInt8 → Bool) (f : FuncId) (cap : Array Value) [IsFn Tryd.prog f] (hf : ∀ c, Pu Tryd.prog f (byt c :: cap.toList) (.bool (p c)))
    (hlen : l.length ≤ 1000000000) : Pm Tryd.prog 85 [v, .func (.func f) #[] cap] R (.int .i64 (idx p l)) := by
  obtain ⟨a, c, hv, _⟩ := hs.shape
  rw [List.length_map] at hv
  subst hv
  refine Pm.of Tryd.func85 Tryd.ntmps85 rfl rfl fun m w hR => ?_
  have hs' := hs.mono hR
  refine WK.seq ?_
  refine WK.region ?_
  refine WL.asC rfl ?_
  refine WL.nil ?_
  refine WK.seq ?_
  refine WK.seq ?_
  refine WK.region ?_
  refine WL.mvL rfl rfl ?_
  refine WL.lenSl rfl rfl ?_
  refine WL.mvC rfl ?_
  refine WL.nil ?_
  refine WK.block ?_
  -- loop
  refine WK.loop (fun (k : Nat) => [(8, .int .i64 (k : Nat)), (7, .int .i64 (l.length : Nat)), (0, .slice a l.length c), (1, .func (.func f) #[] cap)]) (fun _ => m) (fun _ => []) (fun k => k ≤ l.length ∧ ∀ i x, i < k → l[i]? = some x → p x = false) (fun k => l.length - k) 0
    ⟨by omega, by omega⟩ ⟨rfl, rfl, rfl, rfl, trivial⟩ rfl rfl ?_
  rintro k ρ ⟨hk, hno⟩
  refine WK.seq ?_
  refine WK.region ?_
  refine WL.lss rfl rfl rfl ?_
  refine WL.nil ?_
  refine WK.seq ?_
  -- cond
  refine WK.cond rfl (fun h => ?_) (fun h => ?_)
  · have hlt : k < l.length := by simpa using h
    have hc : (l.map byt)[k]? = some (byt l[k]) := by simp [hlt]
    refine WK.skip ?_
    refine WK.seq ?_
    refine WK.block ?_
    refine WK.seq ?_
    refine WK.region ?_
    refine WL.mvI rfl rfl ?_
    refine WL.asI rfl rfl ?_
    refine WL.nil ?_
    refine WK.seq ?_
    refine WK.region ?_
    refine WL.mvF rfl rfl ?_
    refine WL.mvL rfl rfl ?_
    refine WL.mvI rfl rfl ?_
    refine WL.indexE rfl rfl hs' rfl rfl hc fun p14 hp14 => ?_
    refine WL.load1 rfl rfl (hp14.rd (Le.refl _)) ?_
    refine WL.callp (hf _) rfl rfl rfl ?_
    refine WL.nil ?_
    -- cond
    refine WK.cond rfl (fun h2 => ?_) (fun h2 => ?_)
    · refine WK.seq ?_
      refine WK.region ?_
      refine WL.mvI rfl rfl ?_
      refine WL.asI rfl rfl ?_
      refine WL.nil ?_
      refine WK.ret ?_
      refine WK.ret_blk ?_
      refine WK.ret_code ?_
      refine WK.ret_lp ?_
      refine WK.ret_blk ?_
      refine WK.ret_code ?_
      -- end
      refine WK.end1 rfl (show _ = .int _ _ from rfl) ?_
      rw [idx_drop p l k hno, List.drop_eq_getElem_cons hlt]
      simp [idx, h2]
    · skip
      refine WK.skip ?_
      refine WK.blk ?_
      refine WK.region ?_
      refine WL.add rfl rfl rfl (by omega) ?_
      refine WL.mvI rfl rfl ?_
      refine WL.nil ?_
      -- again
      refine WK.again (k + 1) ⟨by omega, ?_⟩ (by omega) ⟨rfl, rfl, rfl, rfl, trivial⟩ rfl rfl
      intro i x hi hx
      by_cases hik : i < k
      · exact hno i x hik hx
      · obtain rfl : i = k := by omega
        rw [List.getElem?_eq_getElem hlt] at hx
        obtain rfl := Option.some.inj hx
        exact h2
  · skip
    refine WK.exit ?_
    refine WK.exit_code ?_
    refine WK.exit_lp ?_
    refine WK.exit_hit ?_
    refine WK.seq ?_
    refine WK.region ?_
    refine WL.asC rfl ?_
    refine WL.nil ?_
    refine WK.ret ?_
    -- end
    refine WK.end1 rfl (show _ = .int _ _ from rfl) ?_
    have hk2 : k = l.length := by simp at h; omega
    subst hk2
    rw [idx_drop p l _ hno]
    simp [idx]
end Go.SL
