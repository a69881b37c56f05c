/- Package prop: names, values, parameters, and what is wrong with a property: contracts. -/
import Derived.Test.YtbigjpjmdkgjmaaDoorRef8b
import Derived.Test.YtbigjpjmdkgjmaaDoorShelf
namespace Go.SL
open Go Go.Proofs
set_option linter.unusedVariables false
set_option linter.unusedSimpArgs false

theorem containsFuncB {R : Nat → Obj → Prop} {v : Value} {l : List UInt8} (hs : Sl R 1 v (l.map byt)) (p : UInt8 → Bool) (f : FuncId) (cap : Array Value) [IsFn Tryd.prog f] (hf : ∀ c, Pu Tryd.prog f (byt c :: cap.toList) (.bool (p c)))
    (hlen : l.length ≤ 1000000000) : Pm Tryd.prog 61 [v, .func (.func f) #[] cap] R (.bool (l.any p)) := by
  obtain ⟨a, c, hv, _⟩ := hs.shape
  rw [List.length_map] at hv
  subst hv
  refine Pm.of Tryd.func61 Tryd.ntmps61 rfl rfl fun m w hR => ?_
  have hs' : Sl (fun b o => m b = some o) 1 _ _ := hs.mono hR
  refine WK.seq ?_
  refine WK.region ?_
  refine WL.asC rfl ?_
  refine WL.nil ?_
  refine WK.seq ?_
  refine WK.region ?_
  refine WL.mvL rfl rfl ?_
  refine WL.mvF rfl rfl ?_
  refine WL.callm (indexFuncB (hs'.rd (Le.refl _)) p f cap hf hlen) rfl rfl rfl ?_
  refine WL.geq rfl rfl rfl ?_
  refine WL.asB rfl rfl ?_
  refine WL.nil ?_
  refine WK.ret ?_
  -- end
  refine WK.end1 rfl (show _ = .bool _ from rfl) ?_
  rw [← idx_neg]
theorem indexFuncP {R : Nat → Obj → Prop} {v : Value} {l : List Par} (hs : Sl R 2 v (l.map parV)) (p : Par → Bool) (f : FuncId) (cap : Array Value) [IsFn Tryd.prog f] (hf : ∀ c ∈ l, Pu Tryd.prog f (parV c :: cap.toList) (.bool (p c)))
    (hlen : l.length ≤ 1000000000) : Pm Tryd.prog 58 [v, .func (.func f) #[] cap] R (.int .i64 (idx p l)) := by
  obtain ⟨a, c, hv, _⟩ := hs.shape
  rw [List.length_map] at hv
  subst hv
  refine Pm.of Tryd.func58 Tryd.ntmps58 rfl rfl fun m w hR => ?_
  have hs' := hs.mono hR
  refine WK.seq ?_
  refine WK.region ?_
  refine WL.asC rfl ?_
  refine WL.nil ?_
  refine WK.seq ?_
  refine WK.seq ?_
  refine WK.region ?_
  refine WL.mvL rfl rfl ?_
  refine WL.lenSl rfl rfl ?_
  refine WL.mvC rfl ?_
  refine WL.nil ?_
  refine WK.block ?_
  -- loop
  refine WK.loop (fun (k : Nat) => [(8, .int .i64 (k : Nat)), (7, .int .i64 (l.length : Nat)), (0, .slice a l.length c), (1, .func (.func f) #[] cap)]) (fun _ => m) (fun _ => []) (fun k => k ≤ l.length ∧ ∀ i x, i < k → l[i]? = some x → p x = false) (fun k => l.length - k) 0
    ⟨by omega, by omega⟩ ⟨rfl, rfl, rfl, rfl, trivial⟩ rfl rfl ?_
  rintro k ρ ⟨hk, hno⟩
  refine WK.seq ?_
  refine WK.region ?_
  refine WL.lss rfl rfl rfl ?_
  refine WL.nil ?_
  refine WK.seq ?_
  -- cond
  refine WK.cond rfl (fun h => ?_) (fun h => ?_)
  · have hlt : k < l.length := by simpa using h
    have hc : (l.map parV)[k]? = some (parV l[k]) := by simp [hlt]
    refine WK.skip ?_
    refine WK.seq ?_
    refine WK.block ?_
    refine WK.seq ?_
    refine WK.region ?_
    refine WL.mvI rfl rfl ?_
    refine WL.asI rfl rfl ?_
    refine WL.nil ?_
    refine WK.seq ?_
    refine WK.region ?_
    refine WL.mvF rfl rfl ?_
    refine WL.mvL rfl rfl ?_
    refine WL.mvI rfl rfl ?_
    refine WL.indexE rfl rfl hs' rfl rfl hc fun p14 hp14 => ?_
    refine WL.loadA rfl rfl (hp14.rd (Le.refl _)) rfl ?_
    refine WL.callp (hf _ (List.getElem_mem hlt)) rfl rfl rfl ?_
    refine WL.nil ?_
    -- cond
    refine WK.cond rfl (fun h2 => ?_) (fun h2 => ?_)
    · refine WK.seq ?_
      refine WK.region ?_
      refine WL.mvI rfl rfl ?_
      refine WL.asI rfl rfl ?_
      refine WL.nil ?_
      refine WK.ret ?_
      refine WK.ret_blk ?_
      refine WK.ret_code ?_
      refine WK.ret_lp ?_
      refine WK.ret_blk ?_
      refine WK.ret_code ?_
      -- end
      refine WK.end1 rfl (show _ = .int _ _ from rfl) ?_
      rw [idx_drop p l k hno, List.drop_eq_getElem_cons hlt]
      simp [idx, h2]
    · skip
      refine WK.skip ?_
      refine WK.blk ?_
      refine WK.region ?_
      refine WL.add rfl rfl rfl (by omega) ?_
      refine WL.mvI rfl rfl ?_
      refine WL.nil ?_
      -- again
      refine WK.again (k + 1) ⟨by omega, ?_⟩ (by omega) ⟨rfl, rfl, rfl, rfl, trivial⟩ rfl rfl
      intro i x hi hx
      by_cases hik : i < k
      · exact hno i x hik hx
      · obtain rfl : i = k := by omega
        rw [List.getElem?_eq_getElem hlt] at hx
        obtain rfl := Option.some.inj hx
        exact h2
  · skip
    refine WK.exit ?_
    refine WK.exit_code ?_
    refine WK.exit_lp ?_
    refine WK.exit_hit ?_
    refine WK.seq ?_
    refine WK.region ?_
    refine WL.asC rfl ?_
    refine WL.nil ?_
    refine WK.ret ?_
    -- end
    refine WK.end1 rfl (show _ = .int _ _ from rfl) ?_
    have hk2 : k = l.length := by simp at h; omega
    subst hk2
    rw [idx_drop p l _ hno]
    simp [idx]
theorem containsFuncP {R : Nat → Obj → Prop} {v : Value} {l : List Par} (hs : Sl R 2 v (l.map parV)) (p : Par → Bool) (f : FuncId) (cap : Array Value) [IsFn Tryd.prog f] (hf : ∀ c ∈ l, Pu Tryd.prog f (parV c :: cap.toList) (.bool (p c)))
    (hlen : l.length ≤ 1000000000) : Pm Tryd.prog 33 [v, .func (.func f) #[] cap] R (.bool (l.any p)) := by
  obtain ⟨a, c, hv, _⟩ := hs.shape
  rw [List.length_map] at hv
  subst hv
  refine Pm.of Tryd.func33 Tryd.ntmps33 rfl rfl fun m w hR => ?_
  have hs' : Sl (fun b o => m b = some o) 2 _ _ := hs.mono hR
  refine WK.seq ?_
  refine WK.region ?_
  refine WL.asC rfl ?_
  refine WL.nil ?_
  refine WK.seq ?_
  refine WK.region ?_
  refine WL.mvL rfl rfl ?_
  refine WL.mvF rfl rfl ?_
  refine WL.callm (indexFuncP (hs'.rd (Le.refl _)) p f cap hf hlen) rfl rfl rfl ?_
  refine WL.geq rfl rfl rfl ?_
  refine WL.asB rfl rfl ?_
  refine WL.nil ?_
  refine WK.ret ?_
  -- end
  refine WK.end1 rfl (show _ = .bool _ from rfl) ?_
  rw [← idx_neg]

theorem any_not_all {α : Type} (p : α → Bool) (l : List α) : (!l.any fun c => !p c) = l.all p := by
  induction l with
  | nil => rfl
  | cons x l ih => simp only [List.any_cons, List.all_cons, Bool.not_or, Bool.not_not, ih]
theorem dec_not_lt (a b : Int) : (!decide (a < b)) = decide (b ≤ a) := by
  by_cases h : a < b
  · have : ¬ b ≤ a := by omega
    simp [h, this]
  · have : b ≤ a := by omega
    simp [h, this]
theorem nameOk_eq (s : List UInt8) : nameOk s = (!(decide (s = []) || decide (32 < (s.length : Int)) || !isCap (s.headD 0)) && s.all nameCh) := by
  rw [Bool.not_or, Bool.not_or, dec_not_lt, Bool.not_not]; rfl
theorem valOk_eq (s : List UInt8) : valOk s = (!(decide (s = []) || decide (32 < (s.length : Int))) && s.all valCh) := by
  rw [Bool.not_or, dec_not_lt]; rfl
theorem pname_pu (s : List UInt8) (hs : s.length ≤ 1000000000) : Pu Tryd.prog 54 [str s] (.bool (nameOk s)) := by
  refine Pu.of Tryd.func54 Tryd.ntmps54 rfl rfl fun w => ?_
  have hc : s ≠ [] → s[0]? = some (s.headD 0) := by intro h; cases s with | nil => exact absurd rfl h | cons x l => rfl
  refine WK.seq ?_
  refine WK.region ?_
  refine WL.asC rfl ?_
  refine WL.nil ?_
  refine WK.seq ?_
  refine WK.seq ?_
  refine WK.mid (fun (_ : Unit) => [(15, .bool (decide (s = []) || decide (32 < (s.length : Int)) || !isCap (s.headD 0))), (0, str s)]) (fun _ _ => none) (fun _ => []) (fun _ => True) ?_ ?_
  · skip
    refine WK.region ?_
    refine WL.mvS rfl rfl ?_
    refine WL.eqlS rfl rfl rfl ?_
    refine WL.mvB rfl rfl ?_
    refine WL.guardSplit rfl rfl (fun h1 => ?_) (fun h1 => ?_)
    · skip
      refine WL.mvS rfl rfl ?_
      refine WL.guard rfl h1 ?_
      refine WL.lenS rfl rfl ?_
      refine WL.guard rfl h1 ?_
      refine WL.gtr rfl rfl rfl ?_
      refine WL.pickF rfl rfl h1 rfl ?_
      refine WL.mvB rfl rfl ?_
      refine WL.guardSplit rfl rfl (fun h2 => ?_) (fun h2 => ?_)
      · skip
        refine WL.mvS rfl rfl ?_
        refine WL.guard rfl h2 ?_
        refine WL.indexS rfl rfl rfl rfl (hc (by simpa using h1)) ?_
        refine WL.guard rfl h2 ?_
        refine WL.callp (capital_pu _) rfl rfl rfl ?_
        refine WL.guard rfl h2 ?_
        refine WL.not rfl rfl ?_
        refine WL.pickF rfl rfl h2 rfl ?_
        refine WL.nil ?_
        refine WK.met () trivial ⟨congrArg Value.bool ?_, rfl, trivial⟩ rfl rfl
        simp_all <;> intros <;> omega
      · skip
        refine WL.guardSkip rfl h2 rfl ?_
        refine WL.guardSkip rfl h2 rfl ?_
        refine WL.guardSkip rfl h2 rfl ?_
        refine WL.pickT rfl rfl h2 rfl ?_
        refine WL.nil ?_
        refine WK.met () trivial ⟨congrArg Value.bool ?_, rfl, trivial⟩ rfl rfl
        simp_all <;> intros <;> omega
    · skip
      refine WL.guardSkip rfl h1 rfl ?_
      refine WL.guardSkip rfl h1 rfl ?_
      refine WL.pickT rfl rfl h1 rfl ?_
      refine WL.mvB rfl rfl ?_
      refine WL.guardSkip rfl rfl rfl ?_
      refine WL.guardSkip rfl rfl rfl ?_
      refine WL.guardSkip rfl rfl rfl ?_
      refine WL.guardSkip rfl rfl rfl ?_
      refine WL.pickT rfl rfl rfl rfl ?_
      refine WL.nil ?_
      refine WK.met () trivial ⟨congrArg Value.bool ?_, rfl, trivial⟩ rfl rfl
      simp_all <;> intros <;> omega
  rintro _ ρ _
  -- cond
  refine WK.cond rfl (fun h1 => ?_) (fun h1 => ?_)
  · refine WK.seq ?_
    refine WK.region ?_
    refine WL.asC rfl ?_
    refine WL.nil ?_
    refine WK.ret ?_
    refine WK.ret_code ?_
    -- end
    refine WK.end1 rfl (show _ = .bool _ from rfl) ?_
    rw [nameOk_eq, h1]; rfl
  · skip
    refine WK.skip ?_
    refine WK.seq ?_
    refine WK.region ?_
    refine WL.mvS rfl rfl ?_
    refine WL.toBytes rfl rfl fun v17 blk17 hO17 => ?_
    obtain ⟨a17, c17, hv17, hc17⟩ := hO17.shape; rw [List.length_map] at hv17 hc17; subst hv17
    refine WL.callm (containsFuncB (hO17.sl fun p hp => .inr (At.mem .here p hp)) (fun c => !nameCh c) _ #[] (fun c => nameF_pu c) hs) rfl rfl rfl ?_
    refine WL.not rfl rfl ?_
    refine WL.asB rfl rfl ?_
    refine WL.nil ?_
    refine WK.ret ?_
    -- end
    refine WK.end1 rfl (show _ = .bool _ from rfl) ?_
    rw [any_not_all, nameOk_eq, h1]; rfl

theorem indexByte_pu (l : List UInt8) (c : UInt8) : Pu Tryd.prog 87 [str l, byt c] (.int .i64 (Lib.indexByte l c)) := fun w =>
  (Tryd.strings_IndexByte ⟨l.toArray⟩ c.toNat w).mono fun e w' h => by
    obtain ⟨rfl, rfl⟩ := h
    refine ⟨?_, rfl, rfl, rfl, Nat.le_refl _, fun _ _ => rfl⟩
    simp
theorem barred (c : UInt8) : decide (0 ≤ Lib.indexByte [59, 58, 61] c) = (decide ((c.toNat : Int) = 59) || decide ((c.toNat : Int) = 58) || decide ((c.toNat : Int) = 61)) := by
  have e : ∀ k : UInt8, (k == c) = decide ((c.toNat : Int) = k.toNat) := by
    intro k
    by_cases h : k = c
    · subst h; rw [decide_eq_true rfl]; exact beq_self_eq_true k
    · have h2 : c.toNat ≠ k.toNat := fun e => h (UInt8.toNat_inj.1 e.symm)
      have h3 : ¬ ((c.toNat : Int) = k.toNat) := by omega
      rw [decide_eq_false h3]; exact beq_eq_false_iff_ne.2 h
  have e1 : ((59 : UInt8) == c) = decide ((c.toNat : Int) = 59) := e 59
  have e2 : ((58 : UInt8) == c) = decide ((c.toNat : Int) = 58) := e 58
  have e3 : ((61 : UInt8) == c) = decide ((c.toNat : Int) = 61) := e 61
  simp only [Lib.indexByte, e1, e2, e3]
  cases decide ((c.toNat : Int) = 59) <;> cases decide ((c.toNat : Int) = 58) <;> cases decide ((c.toNat : Int) = 61) <;> rfl
theorem valueF_pu (c : UInt8) : Pu Tryd.prog 95 [byt c] (.bool (!valCh c)) := by
  refine Pu.of Tryd.func95 Tryd.ntmps95 rfl rfl fun w => ?_
  have hb := barred c
  refine WK.seq ?_
  refine WK.region ?_
  refine WL.asC rfl ?_
  refine WL.nil ?_
  refine WK.seq ?_
  refine WK.region ?_
  refine WL.mvI rfl rfl ?_
  refine WL.leq rfl rfl rfl ?_
  refine WL.mvB rfl rfl ?_
  refine WL.guardSplit rfl rfl (fun h1 => ?_) (fun h1 => ?_)
  · skip
    refine WL.mvI rfl rfl ?_
    refine WL.guard rfl h1 ?_
    refine WL.gtr rfl rfl rfl ?_
    refine WL.pickF rfl rfl h1 rfl ?_
    refine WL.mvB rfl rfl ?_
    refine WL.guardSplit rfl rfl (fun h2 => ?_) (fun h2 => ?_)
    · skip
      refine WL.mvI rfl rfl ?_
      refine WL.guard rfl h2 ?_
      refine WL.callp (indexByte_pu _ _) rfl rfl rfl ?_
      refine WL.guard rfl h2 ?_
      refine WL.geq rfl rfl rfl ?_
      refine WL.pickF rfl rfl h2 rfl ?_
      refine WL.asB rfl rfl ?_
      refine WL.nil ?_
      refine WK.ret ?_
      refine WK.end1 rfl (show _ = .bool _ from rfl) ?_
      (refine congrArg Value.bool ?_; first | (rw [hb]; clear hb; simp_all [valCh]; done) | (rw [hb]; clear hb; simp_all [valCh] <;> omega) | (clear hb; simp_all [valCh] <;> omega) | (rw [hb]; have k1 : (33 : Int) ≤ c.toNat := (by simp at h1; omega); have k2 : (c.toNat : Int) ≤ 126 := (by simp at h2; omega); simp [valCh, k1, k2, Bool.or_assoc]))
    · skip
      refine WL.guardSkip rfl h2 rfl ?_
      refine WL.guardSkip rfl h2 rfl ?_
      refine WL.pickT rfl rfl h2 rfl ?_
      refine WL.asB rfl rfl ?_
      refine WL.nil ?_
      refine WK.ret ?_
      refine WK.end1 rfl (show _ = .bool _ from rfl) ?_
      (refine congrArg Value.bool ?_; first | (rw [hb]; clear hb; simp_all [valCh]; done) | (rw [hb]; clear hb; simp_all [valCh] <;> omega) | (clear hb; simp_all [valCh] <;> omega) | (rw [hb]; have k1 : (33 : Int) ≤ c.toNat := (by simp at h1; omega); have k2 : (c.toNat : Int) ≤ 126 := (by simp at h2; omega); simp [valCh, k1, k2, Bool.or_assoc]))
  · skip
    refine WL.guardSkip rfl h1 rfl ?_
    refine WL.pickT rfl rfl h1 rfl ?_
    refine WL.mvB rfl rfl ?_
    refine WL.guardSkip rfl rfl rfl ?_
    refine WL.guardSkip rfl rfl rfl ?_
    refine WL.guardSkip rfl rfl rfl ?_
    refine WL.pickT rfl rfl rfl rfl ?_
    refine WL.asB rfl rfl ?_
    refine WL.nil ?_
    refine WK.ret ?_
    refine WK.end1 rfl (show _ = .bool _ from rfl) ?_
    (refine congrArg Value.bool ?_; first | (rw [hb]; clear hb; simp_all [valCh]; done) | (rw [hb]; clear hb; simp_all [valCh] <;> omega) | (clear hb; simp_all [valCh] <;> omega) | (rw [hb]; have k1 : (33 : Int) ≤ c.toNat := (by simp at h1; omega); have k2 : (c.toNat : Int) ≤ 126 := (by simp at h2; omega); simp [valCh, k1, k2, Bool.or_assoc]))
theorem pvalue_pu (s : List UInt8) (hs : s.length ≤ 1000000000) : Pu Tryd.prog 82 [str s] (.bool (valOk s)) := by
  refine Pu.of Tryd.func82 Tryd.ntmps82 rfl rfl fun w => ?_
  refine WK.seq ?_
  refine WK.region ?_
  refine WL.asC rfl ?_
  refine WL.nil ?_
  refine WK.seq ?_
  refine WK.seq ?_
  refine WK.mid (fun (_ : Unit) => [(9, .bool (decide (s = []) || decide (32 < (s.length : Int)))), (0, str s)]) (fun _ _ => none) (fun _ => []) (fun _ => True) ?_ ?_
  · skip
    refine WK.region ?_
    refine WL.mvS rfl rfl ?_
    refine WL.eqlS rfl rfl rfl ?_
    refine WL.mvB rfl rfl ?_
    refine WL.guardSplit rfl rfl (fun h1 => ?_) (fun h1 => ?_)
    · skip
      refine WL.mvS rfl rfl ?_
      refine WL.guard rfl h1 ?_
      refine WL.lenS rfl rfl ?_
      refine WL.guard rfl h1 ?_
      refine WL.gtr rfl rfl rfl ?_
      refine WL.pickF rfl rfl h1 rfl ?_
      refine WL.nil ?_
      refine WK.met () trivial ⟨congrArg Value.bool ?_, rfl, trivial⟩ rfl rfl
      simp_all
    · skip
      refine WL.guardSkip rfl h1 rfl ?_
      refine WL.guardSkip rfl h1 rfl ?_
      refine WL.pickT rfl rfl h1 rfl ?_
      refine WL.nil ?_
      refine WK.met () trivial ⟨congrArg Value.bool ?_, rfl, trivial⟩ rfl rfl
      simp_all
  rintro _ ρ _
  -- cond
  refine WK.cond rfl (fun h1 => ?_) (fun h1 => ?_)
  · refine WK.seq ?_
    refine WK.region ?_
    refine WL.asC rfl ?_
    refine WL.nil ?_
    refine WK.ret ?_
    refine WK.ret_code ?_
    -- end
    refine WK.end1 rfl (show _ = .bool _ from rfl) ?_
    rw [valOk_eq, h1]; rfl
  · skip
    refine WK.skip ?_
    refine WK.seq ?_
    refine WK.region ?_
    refine WL.mvS rfl rfl ?_
    refine WL.toBytes rfl rfl fun v11 blk11 hO11 => ?_
    obtain ⟨a11, c11, hv11, hc11⟩ := hO11.shape; rw [List.length_map] at hv11 hc11; subst hv11
    refine WL.callm (containsFuncB (hO11.sl fun p hp => .inr (At.mem .here p hp)) (fun c => !valCh c) _ #[] (fun c => valueF_pu c) hs) rfl rfl rfl ?_
    refine WL.not rfl rfl ?_
    refine WL.asB rfl rfl ?_
    refine WL.nil ?_
    refine WK.ret ?_
    -- end
    refine WK.end1 rfl (show _ = .bool _ from rfl) ?_
    rw [any_not_all, valOk_eq, h1]; rfl
theorem right_pu (p : Par) (h1 : p.1.length ≤ 1000000000) (h2 : p.2.length ≤ 1000000000) : Pu Tryd.prog 56 [parV p] (.bool (parOk p)) := by
  refine Pu.of Tryd.func56 Tryd.ntmps56 rfl rfl fun w => ?_
  refine WK.seq ?_
  refine WK.region ?_
  refine WL.box rfl rfl fun b1 => ?_
  refine WL.asC rfl ?_
  refine WL.nil ?_
  refine WK.seq ?_
  refine WK.region ?_
  refine WL.fieldO rfl rfl ?_
  refine WL.load1O rfl rfl (by first | exact .here | exact .there .here | exact .there (.there .here) | exact .there (.there (.there .here)) | exact .there (.there (.there (.there .here))) | exact .there (.there (.there (.there (.there .here))))) (show _ = some (str _) from rfl) ?_
  refine WL.eqlS rfl rfl rfl ?_
  refine WL.mvB rfl rfl ?_
  refine WL.guardSplit rfl rfl (fun h1 => ?_) (fun h1 => ?_)
  · skip
    refine WL.fieldO rfl rfl ?_
    refine WL.guard rfl h1 ?_
    refine WL.load1O rfl rfl (by first | exact .here | exact .there .here | exact .there (.there .here) | exact .there (.there (.there .here)) | exact .there (.there (.there (.there .here))) | exact .there (.there (.there (.there (.there .here))))) (show _ = some (str _) from rfl) ?_
    refine WL.guard rfl h1 ?_
    refine WL.callp (pname_pu _ (by omega)) rfl rfl rfl ?_
    refine WL.pickF rfl rfl h1 rfl ?_
    refine WL.mvB rfl rfl ?_
    refine WL.guardSplit rfl rfl (fun h2 => ?_) (fun h2 => ?_)
    · skip
      refine WL.fieldO rfl rfl ?_
      refine WL.guard rfl h2 ?_
      refine WL.load1O rfl rfl (by first | exact .here | exact .there .here | exact .there (.there .here) | exact .there (.there (.there .here)) | exact .there (.there (.there (.there .here))) | exact .there (.there (.there (.there (.there .here))))) (show _ = some (str _) from rfl) ?_
      refine WL.guard rfl h2 ?_
      refine WL.callp (pvalue_pu _ (by omega)) rfl rfl rfl ?_
      refine WL.pickT rfl rfl h2 rfl ?_
      refine WL.asB rfl rfl ?_
      refine WL.nil ?_
      refine WK.ret ?_
      refine WK.end1 rfl (show _ = .bool _ from rfl) ?_
      simp_all [parOk]
    · skip
      refine WL.guardSkip rfl h2 rfl ?_
      refine WL.guardSkip rfl h2 rfl ?_
      refine WL.pickF rfl rfl h2 rfl ?_
      refine WL.asB rfl rfl ?_
      refine WL.nil ?_
      refine WK.ret ?_
      refine WK.end1 rfl (show _ = .bool _ from rfl) ?_
      simp_all [parOk]
  · skip
    refine WL.guardSkip rfl h1 rfl ?_
    refine WL.guardSkip rfl h1 rfl ?_
    refine WL.pickT rfl rfl h1 rfl ?_
    refine WL.mvB rfl rfl ?_
    refine WL.guard rfl rfl ?_
    refine WL.fieldO rfl rfl ?_
    refine WL.guard rfl rfl ?_
    refine WL.load1O rfl rfl (by first | exact .here | exact .there .here | exact .there (.there .here) | exact .there (.there (.there .here)) | exact .there (.there (.there (.there .here))) | exact .there (.there (.there (.there (.there .here))))) (show _ = some (str _) from rfl) ?_
    refine WL.guard rfl rfl ?_
    refine WL.callp (pvalue_pu _ (by omega)) rfl rfl rfl ?_
    refine WL.pickT rfl rfl rfl rfl ?_
    refine WL.asB rfl rfl ?_
    refine WL.nil ?_
    refine WK.ret ?_
    refine WK.end1 rfl (show _ = .bool _ from rfl) ?_
    simp_all [parOk]
theorem checkF_pu (p : Par) (h1 : p.1.length ≤ 1000000000) (h2 : p.2.length ≤ 1000000000) : Pu Tryd.prog 55 [parV p] (.bool (!parOk p)) := by
  refine Pu.of Tryd.func55 Tryd.ntmps55 rfl rfl fun w => ?_
  refine WK.seq ?_
  refine WK.region ?_
  refine WL.box rfl rfl fun b1 => ?_
  refine WL.asC rfl ?_
  refine WL.nil ?_
  refine WK.seq ?_
  refine WK.region ?_
  refine WL.loadAO rfl rfl (by first | exact .here | exact .there .here | exact .there (.there .here) | exact .there (.there (.there .here)) | exact .there (.there (.there (.there .here))) | exact .there (.there (.there (.there (.there .here))))) (by rfl) ?_
  refine WL.callp (right_pu p h1 h2) rfl rfl rfl ?_
  refine WL.not rfl rfl ?_
  refine WL.asB rfl rfl ?_
  refine WL.nil ?_
  refine WK.ret ?_
  refine WK.end1 rfl (show _ = .bool _ from rfl) ?_
  rfl
end Go.SL
