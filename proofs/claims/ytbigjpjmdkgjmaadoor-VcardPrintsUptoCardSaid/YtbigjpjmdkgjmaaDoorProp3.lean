/- Package prop: what is wrong with a property, and its line: contracts. -/
import Derived.Test.YtbigjpjmdkgjmaaDoorProp2
import Derived.Test.YtbigjpjmdkgjmaaDoorBld
namespace Go.SL
open Go Go.Proofs
set_option linter.unusedVariables false
set_option linter.unusedSimpArgs false

theorem indexAny_bad (l : List UInt8) : Lib.containsAny l [0, 10, 13] = l.any badCh := by
  have e : ∀ c : UInt8, ([0, 10, 13] : List UInt8).contains c = badCh c := by
    intro c
    have e : ∀ k : UInt8, (c == k) = decide ((c.toNat : Int) = k.toNat) := by
      intro k
      by_cases h : c = k
      · subst h; rw [decide_eq_true rfl]; exact beq_self_eq_true c
      · have h2 : c.toNat ≠ k.toNat := fun e => h (UInt8.toNat_inj.1 e)
        have h3 : ¬ ((c.toNat : Int) = k.toNat) := by omega
        rw [decide_eq_false h3]; exact beq_eq_false_iff_ne.2 h
    have e1 : (c == (0 : UInt8)) = decide ((c.toNat : Int) = 0) := e 0
    have e2 : (c == (10 : UInt8)) = decide ((c.toNat : Int) = 10) := e 10
    have e3 : (c == (13 : UInt8)) = decide ((c.toNat : Int) = 13) := e 13
    simp only [List.contains, List.elem, e1, e2, e3, badCh]
    cases decide ((c.toNat : Int) = 0) <;> cases decide ((c.toNat : Int) = 10) <;> cases decide ((c.toNat : Int) = 13) <;> rfl
  unfold Lib.containsAny
  induction l with
  | nil => rfl
  | cons x l ih =>
    have hge := Lib.indexAny_ge [0, 10, 13] l
    simp only [Lib.indexAny, e, List.any_cons]
    cases hx : badCh x with
    | true => simp
    | false =>
      simp only [Bool.false_or, ← ih, Bool.false_eq_true, if_false]
      by_cases h : Lib.indexAny l [0, 10, 13] = -1
      · simp [h]
      · simp only [beq_iff_eq, h, if_false]; congr 1; simp; omega
theorem containsAny_pu (l : List UInt8) (hl : l.length ≤ 1000000000) (h : ∀ c ∈ l, c.toNat < 128) : Pu Tryd.prog 57 [str l, str [0, 10, 13]] (.bool (l.any badCh)) := fun w =>
  (Tryd.strings_ContainsAny_laid ⟨l.toArray⟩ ⟨#[0, 10, 13]⟩ w (by simp [ByteArray.size]; omega) (by decide) (fun j b hb => h b (by simpa using List.mem_of_getElem? hb)) (by
    intro j b hb
    have : b ∈ ([0, 10, 13] : List UInt8) := List.mem_of_getElem? hb
    simp at this
    rcases this with rfl | rfl | rfl <;> decide)).mono fun e w' hp => by
    obtain ⟨rfl, hb⟩ := hp
    refine ⟨?_, hb.os, hb.tape, hb.output, hb.size, hb.block⟩
    rw [← indexAny_bad]
theorem containsBad {R : Nat → Obj → Prop} {v : Value} {l : List Par} (hs : Sl R 2 v (l.map parV)) (hb : ∀ p ∈ l, p.1.length ≤ 1000000000 ∧ p.2.length ≤ 1000000000) (hlen : l.length ≤ 1000000000) :
    Pm Tryd.prog 33 [v, .func (.func 55) #[] #[]] R (.bool (!l.all parOk)) := by
  rw [← any_not_all, Bool.not_not]
  exact containsFuncP hs (fun p => !parOk p) _ #[] (fun p hp => checkF_pu p (hb p hp).1 (hb p hp).2) hlen
theorem pcheck_pm {R : Nat → Obj → Prop} {pv : Value} {ps : List Par} (hs : Sl R 2 pv (ps.map parV)) (g n v : List UInt8) (aa : Option Addr) (al ac : Nat) (hg : g.length ≤ 1000000000) (hn : n.length ≤ 1000000000) (hv : v.length ≤ 1000000000)
    (hb : ∀ p ∈ ps, p.1.length ≤ 1000000000 ∧ p.2.length ≤ 1000000000) (hasc : ∀ c ∈ v, c.toNat < 128) (hps : ps.length ≤ 1000000000) :
    Pm Tryd.prog 32 [propV g n pv v (.slice aa al ac)] R (.int .i64 (chkProp g n ps v al)) := by
  obtain ⟨a, c, hpv, _⟩ := hs.shape
  rw [List.length_map] at hpv
  subst hpv
  refine Pm.of Tryd.func32 Tryd.ntmps32 rfl rfl fun m w hR => ?_
  have hs' : Sl (fun b o => m b = some o) 2 _ _ := hs.mono hR
  refine WK.seq ?_
  refine WK.region ?_
  refine WL.box rfl rfl fun b1 => ?_
  refine WL.asC rfl ?_
  refine WL.nil ?_
  refine WK.seq ?_
  refine WK.block ?_
  refine WK.seq ?_
  refine WK.seq ?_
  refine WK.mid (fun (_ : Unit) => [(3, .bool (!decide (g = []) && !nameOk g)), (1, .pointer (some ⟨b1, 0, none⟩))]) (fun _ => m) (fun _ => [[(b1, .cells #[str g, str n, .slice a ps.length c, str v, .slice aa al ac] 42 (0, 0))]]) (fun _ => True) ?_ ?_
  · skip
    refine WK.region ?_
    refine WL.fieldO rfl rfl ?_
    refine WL.load1O rfl rfl (by first | exact .here | exact .there .here | exact .there (.there .here) | exact .there (.there (.there .here)) | exact .there (.there (.there (.there .here))) | exact .there (.there (.there (.there (.there .here))))) (show _ = some (str _) from rfl) ?_
    refine WL.neqS rfl rfl rfl ?_
    refine WL.mvB rfl rfl ?_
    refine WL.guardSplit rfl rfl (fun h1 => ?_) (fun h1 => ?_)
    · skip
      refine WL.fieldO rfl rfl ?_
      refine WL.guard rfl h1 ?_
      refine WL.load1O rfl rfl (by first | exact .here | exact .there .here | exact .there (.there .here) | exact .there (.there (.there .here)) | exact .there (.there (.there (.there .here))) | exact .there (.there (.there (.there (.there .here))))) (show _ = some (str _) from rfl) ?_
      refine WL.guard rfl h1 ?_
      refine WL.callp (pname_pu _ (by omega)) rfl rfl rfl ?_
      refine WL.guard rfl h1 ?_
      refine WL.not rfl rfl ?_
      refine WL.pickT rfl rfl h1 rfl ?_
      refine WL.asB rfl rfl ?_
      refine WL.nil ?_
      refine WK.met () trivial ⟨?_, rfl, trivial⟩ rfl rfl
      simp_all [upd, upds]
    · skip
      refine WL.guardSkip rfl h1 rfl ?_
      refine WL.guardSkip rfl h1 rfl ?_
      refine WL.guardSkip rfl h1 rfl ?_
      refine WL.pickF rfl rfl h1 rfl ?_
      refine WL.asB rfl rfl ?_
      refine WL.nil ?_
      refine WK.met () trivial ⟨?_, rfl, trivial⟩ rfl rfl
      simp_all [upd, upds]
  rintro _ ρ _
  refine WK.cond rfl (fun h1 => ?_) (fun h1 => ?_)
  · skip
    refine WK.skip ?_
    refine WK.cond_t (congrArg Value.bool h1) ?_
    refine WK.seq ?_
    refine WK.region ?_
    refine WL.asC rfl ?_
    refine WL.nil ?_
    refine WK.ret ?_
    refine WK.ret_blk ?_
    refine WK.ret_code ?_
    refine WK.end1 rfl (show _ = .int _ _ from rfl) ?_
    simp only [chkProp, *, Bool.not_true, Bool.not_false, Bool.false_eq_true, Bool.or_true, Bool.true_or, Bool.or_false, if_true, if_false]
  · skip
    refine WK.region ?_
    refine WL.fieldO rfl rfl ?_
    refine WL.load1O rfl rfl (by first | exact .here | exact .there .here | exact .there (.there .here) | exact .there (.there (.there .here)) | exact .there (.there (.there (.there .here))) | exact .there (.there (.there (.there (.there .here))))) (show _ = some (str _) from rfl) ?_
    refine WL.callp (pname_pu _ (by omega)) rfl rfl rfl ?_
    refine WL.not rfl rfl ?_
    refine WL.asB rfl rfl ?_
    refine WL.nil ?_
    refine WK.cond rfl (fun h2 => ?_) (fun h2 => ?_)
    · skip
      refine WK.seq ?_
      refine WK.region ?_
      refine WL.asC rfl ?_
      refine WL.nil ?_
      refine WK.ret ?_
      refine WK.ret_blk ?_
      refine WK.ret_code ?_
      refine WK.end1 rfl (show _ = .int _ _ from rfl) ?_
      simp only [chkProp, *, Bool.not_true, Bool.not_false, Bool.false_eq_true, Bool.or_true, Bool.true_or, Bool.or_false, if_true, if_false]
    · skip
      refine WK.seq ?_
      refine WK.region ?_
      refine WL.fieldO rfl rfl ?_
      refine WL.load1O rfl rfl (by first | exact .here | exact .there .here | exact .there (.there .here) | exact .there (.there (.there .here)) | exact .there (.there (.there (.there .here))) | exact .there (.there (.there (.there (.there .here))))) (show _ = some (.slice _ _ _) from rfl) ?_
      refine WL.lenSl rfl rfl ?_
      refine WL.gtr rfl rfl rfl ?_
      refine WL.asB rfl rfl ?_
      refine WL.nil ?_
      refine WK.cond rfl (fun h3 => ?_) (fun h3 => ?_)
      · skip
        refine WK.seq ?_
        refine WK.region ?_
        refine WL.asC rfl ?_
        refine WL.nil ?_
        refine WK.ret ?_
        refine WK.ret_blk ?_
        refine WK.ret_code ?_
        refine WK.end1 rfl (show _ = .int _ _ from rfl) ?_
        simp only [chkProp, *, Bool.not_true, Bool.not_false, Bool.false_eq_true, Bool.or_true, Bool.true_or, Bool.or_false, if_true, if_false]
      · skip
        refine WK.seq ?_
        refine WK.region ?_
        refine WL.fieldO rfl rfl ?_
        refine WL.load1O rfl rfl (by first | exact .here | exact .there .here | exact .there (.there .here) | exact .there (.there (.there .here)) | exact .there (.there (.there (.there .here))) | exact .there (.there (.there (.there (.there .here))))) (show _ = some (.slice _ _ _) from rfl) ?_
        refine WL.callm (containsBad (hs'.rd (Le.refl _)) hb hps) rfl rfl rfl ?_
        refine WL.asB rfl rfl ?_
        refine WL.nil ?_
        refine WK.cond rfl (fun h4 => ?_) (fun h4 => ?_)
        · skip
          refine WK.seq ?_
          refine WK.region ?_
          refine WL.asC rfl ?_
          refine WL.nil ?_
          refine WK.ret ?_
          refine WK.ret_blk ?_
          refine WK.ret_code ?_
          refine WK.end1 rfl (show _ = .int _ _ from rfl) ?_
          simp only [chkProp, *, Bool.not_true, Bool.not_false, Bool.false_eq_true, Bool.or_true, Bool.true_or, Bool.or_false, if_true, if_false]
        · skip
          refine WK.seq ?_
          refine WK.region ?_
          refine WL.fieldO rfl rfl ?_
          refine WL.load1O rfl rfl (by first | exact .here | exact .there .here | exact .there (.there .here) | exact .there (.there (.there .here)) | exact .there (.there (.there (.there .here))) | exact .there (.there (.there (.there (.there .here))))) (show _ = some (.slice _ _ _) from rfl) ?_
          refine WL.lenSl rfl rfl ?_
          refine WL.gtr rfl rfl rfl ?_
          refine WL.asB rfl rfl ?_
          refine WL.nil ?_
          refine WK.cond rfl (fun h5 => ?_) (fun h5 => ?_)
          · skip
            refine WK.seq ?_
            refine WK.region ?_
            refine WL.asC rfl ?_
            refine WL.nil ?_
            refine WK.ret ?_
            refine WK.ret_blk ?_
            refine WK.ret_code ?_
            refine WK.end1 rfl (show _ = .int _ _ from rfl) ?_
            simp only [chkProp, *, Bool.not_true, Bool.not_false, Bool.false_eq_true, Bool.or_true, Bool.true_or, Bool.or_false, if_true, if_false]
          · skip
            refine WK.seq ?_
            refine WK.region ?_
            refine WL.fieldO rfl rfl ?_
            refine WL.load1O rfl rfl (by first | exact .here | exact .there .here | exact .there (.there .here) | exact .there (.there (.there .here)) | exact .there (.there (.there (.there .here))) | exact .there (.there (.there (.there (.there .here))))) (show _ = some (str _) from rfl) ?_
            refine WL.lenS rfl rfl ?_
            refine WL.gtr rfl rfl rfl ?_
            refine WL.asB rfl rfl ?_
            refine WL.nil ?_
            refine WK.cond rfl (fun h6 => ?_) (fun h6 => ?_)
            · skip
              refine WK.seq ?_
              refine WK.region ?_
              refine WL.asC rfl ?_
              refine WL.nil ?_
              refine WK.ret ?_
              refine WK.ret_blk ?_
              refine WK.ret_code ?_
              refine WK.end1 rfl (show _ = .int _ _ from rfl) ?_
              simp only [chkProp, *, Bool.not_true, Bool.not_false, Bool.false_eq_true, Bool.or_true, Bool.true_or, Bool.or_false, if_true, if_false]
            · skip
              refine WK.seq ?_
              refine WK.region ?_
              refine WL.fieldO rfl rfl ?_
              refine WL.load1O rfl rfl (by first | exact .here | exact .there .here | exact .there (.there .here) | exact .there (.there (.there .here)) | exact .there (.there (.there (.there .here))) | exact .there (.there (.there (.there (.there .here))))) (show _ = some (str _) from rfl) ?_
              refine WL.callp (containsAny_pu _ (by omega) hasc) rfl rfl rfl ?_
              refine WL.asB rfl rfl ?_
              refine WL.nil ?_
              refine WK.cond rfl (fun h7 => ?_) (fun h7 => ?_)
              · skip
                refine WK.seq ?_
                refine WK.region ?_
                refine WL.asC rfl ?_
                refine WL.nil ?_
                refine WK.ret ?_
                refine WK.ret_blk ?_
                refine WK.ret_code ?_
                refine WK.end1 rfl (show _ = .int _ _ from rfl) ?_
                simp only [chkProp, *, Bool.not_true, Bool.not_false, Bool.false_eq_true, Bool.or_true, Bool.true_or, Bool.or_false, if_true, if_false]
              · skip
                refine WK.skip ?_
                refine WK.blk ?_
                refine WK.seq ?_
                refine WK.region ?_
                refine WL.asC rfl ?_
                refine WL.nil ?_
                refine WK.ret ?_
                refine WK.end1 rfl (show _ = .int _ _ from rfl) ?_
                simp only [chkProp, *, Bool.not_true, Bool.not_false, Bool.false_eq_true, Bool.or_true, Bool.true_or, Bool.or_false, if_true, if_false]
theorem parV_one (p : Par) : ∀ c ∈ (parV p).cells.toList, c.oneCell' = true := by
  intro c hc
  simp [parV, Value.cells] at hc
  rcases hc with rfl | rfl <;> rfl
theorem pprint_pm {R : Nat → Obj → Prop} {pv : Value} {ps : List Par} (hs : Sl R 2 pv (ps.map parV)) (g n v : List UInt8) (aa : Option Addr) (al ac : Nat) (hg : g.length ≤ 100000000) (hn : n.length ≤ 100000000) (hv : v.length ≤ 100000000)
    (hb : ∀ p ∈ ps, p.1.length ≤ 1000000 ∧ p.2.length ≤ 1000000) (hasc : ∀ c ∈ v, c.toNat < 128) (hps : ps.length ≤ 1000000000) :
    Pm Tryd.prog 19 [propV g n pv v (.slice aa al ac)] R (.tuple #[str (if chkProp g n ps v al = 0 then propLine g n ps v else []), .int .i64 (chkProp g n ps v al)]) := by
  obtain ⟨a, c, hpv, _⟩ := hs.shape
  rw [List.length_map] at hpv
  subst hpv
  refine Pm.of Tryd.func19 Tryd.ntmps19 rfl rfl fun m w hR => ?_
  have hs' : Sl (fun b o => m b = some o) 2 _ _ := hs.mono hR
  refine WK.seq ?_
  refine WK.region ?_
  refine WL.box rfl rfl fun b1 => ?_
  refine WL.asC rfl ?_
  refine WL.asC rfl ?_
  refine WL.nil ?_
  refine WK.seq ?_
  refine WK.seq ?_
  refine WK.region ?_
  refine WL.loadAO rfl rfl (by first | exact .here | exact .there .here | exact .there (.there .here) | exact .there (.there (.there .here)) | exact .there (.there (.there (.there .here))) | exact .there (.there (.there (.there (.there .here))))) (by rfl) ?_
  refine WL.callm (pcheck_pm (hs'.rd (Le.refl _)) g n v aa al ac (by omega) (by omega) (by omega) (fun p hp => ⟨Nat.le_trans (hb p hp).1 (by omega), Nat.le_trans (hb p hp).2 (by omega)⟩) hasc hps) rfl rfl rfl ?_
  refine WL.asI rfl rfl ?_
  refine WL.nil ?_
  refine WK.seq ?_
  refine WK.region ?_
  refine WL.mvI rfl rfl ?_
  refine WL.neq rfl rfl rfl ?_
  refine WL.nil ?_
  -- cond
  refine WK.cond rfl (fun h1 => ?_) (fun h1 => ?_)
  · refine WK.seq ?_
    refine WK.region ?_
    refine WL.mvI rfl rfl ?_
    refine WL.asC rfl ?_
    refine WL.asI rfl rfl ?_
    refine WL.nil ?_
    refine WK.ret ?_
    refine WK.ret_code ?_
    -- end
    refine WK.end2 rfl (show _ = str _ from rfl) (show _ = .int _ _ from rfl) ?_
    have h1' : ¬ chkProp g n ps v al = 0 := by simpa using h1
    rw [if_neg h1']
  · skip
    have h1' : chkProp g n ps v al = 0 := by simpa using h1
    have hk6 : ps.length ≤ 6 := by
      have := h1'
      unfold chkProp at this
      (repeat' split at this) <;> first | omega | (rename_i h _ _ _ _; simp at h; omega) | skip
    rw [if_pos h1', h1']
    refine WK.skip ?_
    refine WK.seq ?_
    refine WK.region ?_
    refine WL.alloc rfl fun b5 => ?_
    refine WL.nil ?_
    refine WK.seq ?_
    have hB := IsB.new b5
    refine WK.mid (fun (_ : Bun) => [(5, .pointer (some ⟨b5, 0, none⟩)), (1, .pointer (some ⟨b1, 0, none⟩))]) (fun _ => m) (fun bk => [bk, [(b1, .cells #[str g, str n, .slice a ps.length c, str v, .slice aa al ac] 42 (0, 0))]]) (fun bk => IsB bk b5 (if g = [] then [] else g ++ [46])) ?_ ?_
    · skip
      refine WK.seq ?_
      refine WK.region ?_
      refine WL.fieldO rfl rfl ?_
      refine WL.load1O rfl rfl (by first | exact .here | exact .there .here | exact .there (.there .here) | exact .there (.there (.there .here)) | exact .there (.there (.there (.there .here))) | exact .there (.there (.there (.there (.there .here))))) (show _ = some (str _) from rfl) ?_
      refine WL.neqS rfl rfl rfl ?_
      refine WL.nil ?_
      refine WK.cond rfl (fun h1 => ?_) (fun h1 => ?_)
      · skip
        refine WK.region ?_
        refine WL.fieldO rfl rfl ?_
        refine WL.load1O rfl rfl (by first | exact .here | exact .there .here | exact .there (.there .here) | exact .there (.there (.there .here)) | exact .there (.there (.there (.there .here))) | exact .there (.there (.there (.there (.there .here))))) (show _ = some (str _) from rfl) ?_
        refine WL.addS rfl rfl rfl (by simp; omega) ?_
        refine WL.call (writeString_tr _ hB _ (by (try simp only [List.length_append, List.length_cons, List.length_nil, List.length_map]); omega)) rfl rfl rfl (by first | exact .here .none | exact .there (.here .none) | exact .there (.there (.here .none)) | exact .there (.there (.there (.here .none)))) ?_
        intro u m1 back hle hΦ; obtain ⟨hm1, bk, hbk1, hB⟩ := hΦ; subst m1; subst hbk1
        refine WL.nil ?_
        refine WK.met _ ?_ ⟨rfl, rfl, trivial⟩ rfl rfl
        simp_all
      · skip
        refine WK.skip ?_
        refine WK.met _ ?_ ⟨rfl, rfl, trivial⟩ rfl rfl
        simp_all
    rintro bk ρ hB
    have hL : (if g = [] then [] else g ++ [46]).length ≤ 100000001 := by split <;> (try simp only [List.length_append, List.length_cons, List.length_nil]) <;> omega
    generalize hG : (if g = [] then [] else g ++ [46]) = G at *
    refine WK.seq ?_
    refine WK.region ?_
    refine WL.fieldO rfl rfl ?_
    refine WL.load1O rfl rfl (by first | exact .here | exact .there .here | exact .there (.there .here) | exact .there (.there (.there .here)) | exact .there (.there (.there (.there .here))) | exact .there (.there (.there (.there (.there .here))))) (show _ = some (str _) from rfl) ?_
    refine WL.call (writeString_tr _ hB _ (by (try simp only [List.length_append, List.length_cons, List.length_nil, List.length_map]); omega)) rfl rfl rfl (by first | exact .here .none | exact .there (.here .none) | exact .there (.there (.here .none)) | exact .there (.there (.there (.here .none)))) ?_
    intro u m1 back hle hΦ; obtain ⟨hm1, bk, hbk1, hB⟩ := hΦ; subst m1; subst hbk1
    refine WL.nil ?_
    refine WK.seq ?_
    refine WK.seq ?_
    refine WK.region ?_
    refine WL.fieldO rfl rfl ?_
    refine WL.load1O rfl rfl (by first | exact .here | exact .there .here | exact .there (.there .here) | exact .there (.there (.there .here)) | exact .there (.there (.there (.there .here))) | exact .there (.there (.there (.there (.there .here))))) (show _ = some (.slice _ _ _) from rfl) ?_
    refine WL.lenSl rfl rfl ?_
    refine WL.mvC rfl ?_
    refine WL.nil ?_
    refine WK.block ?_
    -- loop
    refine WK.loop (G := Nat × Bun) (fun g' => [(26, .int .i64 (g'.1 : Nat)), (25, .int .i64 (ps.length : Nat)), (24, .slice a ps.length c), (5, .pointer (some ⟨b5, 0, none⟩)), (1, .pointer (some ⟨b1, 0, none⟩))]) (fun _ => m) (fun g' => [g'.2, [(b1, .cells #[str g, str n, .slice a ps.length c, str v, .slice aa al ac] 42 (0, 0))]])
      (fun g' => g'.1 ≤ ps.length ∧ IsB g'.2 b5 (G ++ n ++ (ps.take g'.1).flatMap parLine)) (fun g' => ps.length - g'.1) (0, _) ⟨by simp, by simpa using hB⟩ ⟨rfl, rfl, rfl, rfl, rfl, trivial⟩ rfl rfl ?_
    rintro ⟨k, bk⟩ ρ ⟨hk, hB⟩
    replace hk : k ≤ ps.length := hk
    replace hB : IsB bk b5 (G ++ n ++ (ps.take k).flatMap parLine) := hB
    have hF : ((ps.take k).flatMap parLine).length ≤ 6 * 2000002 := Nat.le_trans (parLines_le (B := 1000000) fun p hp => hb p (List.mem_of_mem_take hp)) (Nat.mul_le_mul_right _ (by rw [List.length_take]; omega))
    generalize hX : (ps.take k).flatMap parLine = X at *
    refine WK.seq ?_
    refine WK.region ?_
    refine WL.lss rfl rfl rfl ?_
    refine WL.nil ?_
    refine WK.seq ?_
    -- cond
    refine WK.cond rfl (fun h => ?_) (fun h => ?_)
    · have hlt : k < ps.length := by simpa using h
      have hc : (ps.map parV)[k]? = some (parV ps[k]) := by simp [hlt]
      have hbk := hb _ (List.getElem_mem hlt)
      refine WK.skip ?_
      refine WK.seq ?_
      refine WK.block ?_
      refine WK.seq ?_
      refine WK.region ?_
      refine WL.indexE rfl rfl hs' rfl rfl hc fun p28 hp28 => ?_
      refine WL.loadA rfl rfl (hp28.rd (Le.refl _)) rfl ?_
      refine WL.alloc rfl fun b7 => ?_
      refine WL.storeAO rfl rfl rfl (by first | exact .here | exact .there .here | exact .there (.there .here) | exact .there (.there (.there .here)) | exact .there (.there (.there (.there .here))) | exact .there (.there (.there (.there (.there .here))))) (by rfl) (by rfl) (parV_one ps[k]) ?_
      refine WL.nil ?_
      refine WK.seq ?_
      refine WK.region ?_
      refine WL.call (writeString_tr _ hB _ (by (try simp only [List.length_append, List.length_cons, List.length_nil, List.length_map]); omega)) rfl rfl rfl (by first | exact .here .none | exact .there (.here .none) | exact .there (.there (.here .none)) | exact .there (.there (.there (.here .none)))) ?_
      intro u m1 back hle hΦ; obtain ⟨hm1, bk, hbk1, hB⟩ := hΦ; subst m1; subst hbk1
      refine WL.nil ?_
      refine WK.seq ?_
      refine WK.seq ?_
      refine WK.region ?_
      refine WL.fieldO rfl rfl ?_
      refine WL.load1O rfl rfl (by first | exact .here | exact .there .here | exact .there (.there .here) | exact .there (.there (.there .here)) | exact .there (.there (.there (.there .here))) | exact .there (.there (.there (.there (.there .here))))) (show _ = some (str _) from rfl) ?_
      refine WL.neqS rfl rfl rfl ?_
      refine WL.nil ?_
      refine WK.cond rfl (fun h1 => ?_) (fun h1 => ?_)
      · skip
        refine WK.region ?_
        refine WL.fieldO rfl rfl ?_
        refine WL.load1O rfl rfl (by first | exact .here | exact .there .here | exact .there (.there .here) | exact .there (.there (.there .here)) | exact .there (.there (.there (.there .here))) | exact .there (.there (.there (.there (.there .here))))) (show _ = some (str _) from rfl) ?_
        refine WL.addS rfl rfl rfl (by simp; omega) ?_
        refine WL.call (writeString_tr _ hB _ (by (try simp only [List.length_append, List.length_cons, List.length_nil, List.length_map]); omega)) rfl rfl rfl (by first | exact .here .none | exact .there (.here .none) | exact .there (.there (.here .none)) | exact .there (.there (.there (.here .none)))) ?_
        intro u m1 back hle hΦ; obtain ⟨hm1, bk, hbk1, hB⟩ := hΦ; subst m1; subst hbk1
        refine WL.nil ?_
        refine WK.region ?_
        refine WL.fieldO rfl rfl ?_
        refine WL.load1O rfl rfl (by first | exact .here | exact .there .here | exact .there (.there .here) | exact .there (.there (.there .here)) | exact .there (.there (.there (.there .here))) | exact .there (.there (.there (.there (.there .here))))) (show _ = some (str _) from rfl) ?_
        refine WL.call (writeString_tr _ hB _ (by (try simp only [List.length_append, List.length_cons, List.length_nil, List.length_map]); omega)) rfl rfl rfl (by first | exact .here .none | exact .there (.here .none) | exact .there (.there (.here .none)) | exact .there (.there (.there (.here .none)))) ?_
        intro u m1 back hle hΦ; obtain ⟨hm1, bk, hbk1, hB⟩ := hΦ; subst m1; subst hbk1
        refine WL.nil ?_
        refine WK.blk ?_
        refine WK.region ?_
        refine WL.add rfl rfl rfl (by omega) ?_
        refine WL.mvI rfl rfl ?_
        refine WL.nil ?_
        refine WK.drop (.keep (.drop .refl)) ?_
        refine WK.again (k + 1, bk) ⟨by show k + 1 ≤ _; omega, ?_⟩ (by show ps.length - (k + 1) < ps.length - k; omega) ⟨rfl, rfl, rfl, rfl, rfl, trivial⟩ rfl rfl
        show IsB bk b5 (G ++ n ++ (ps.take (k + 1)).flatMap parLine)
        rw [parLines_succ hlt, hX]
        simp_all [parLine]
      · skip
        refine WK.skip ?_
        refine WK.region ?_
        refine WL.fieldO rfl rfl ?_
        refine WL.load1O rfl rfl (by first | exact .here | exact .there .here | exact .there (.there .here) | exact .there (.there (.there .here)) | exact .there (.there (.there (.there .here))) | exact .there (.there (.there (.there (.there .here))))) (show _ = some (str _) from rfl) ?_
        refine WL.call (writeString_tr _ hB _ (by (try simp only [List.length_append, List.length_cons, List.length_nil, List.length_map]); omega)) rfl rfl rfl (by first | exact .here .none | exact .there (.here .none) | exact .there (.there (.here .none)) | exact .there (.there (.there (.here .none)))) ?_
        intro u m1 back hle hΦ; obtain ⟨hm1, bk, hbk1, hB⟩ := hΦ; subst m1; subst hbk1
        refine WL.nil ?_
        refine WK.blk ?_
        refine WK.region ?_
        refine WL.add rfl rfl rfl (by omega) ?_
        refine WL.mvI rfl rfl ?_
        refine WL.nil ?_
        refine WK.drop (.keep (.drop .refl)) ?_
        refine WK.again (k + 1, bk) ⟨by show k + 1 ≤ _; omega, ?_⟩ (by show ps.length - (k + 1) < ps.length - k; omega) ⟨rfl, rfl, rfl, rfl, rfl, trivial⟩ rfl rfl
        show IsB bk b5 (G ++ n ++ (ps.take (k + 1)).flatMap parLine)
        rw [parLines_succ hlt, hX]
        simp_all [parLine]
    · skip
      have hk2 : k = ps.length := by simp at h; omega
      refine WK.exit ?_
      refine WK.exit_code ?_
      refine WK.exit_lp ?_
      refine WK.exit_hit ?_
      refine WK.seq ?_
      refine WK.region ?_
      refine WL.call (writeString_tr _ hB _ (by (try simp only [List.length_append, List.length_cons, List.length_nil, List.length_map]); omega)) rfl rfl rfl (by first | exact .here .none | exact .there (.here .none) | exact .there (.there (.here .none)) | exact .there (.there (.there (.here .none)))) ?_
      intro u m1 back hle hΦ; obtain ⟨hm1, bk, hbk1, hB⟩ := hΦ; subst m1; subst hbk1
      refine WL.nil ?_
      refine WK.seq ?_
      refine WK.region ?_
      refine WL.fieldO rfl rfl ?_
      refine WL.load1O rfl rfl (by first | exact .here | exact .there .here | exact .there (.there .here) | exact .there (.there (.there .here)) | exact .there (.there (.there (.there .here))) | exact .there (.there (.there (.there (.there .here))))) (show _ = some (str _) from rfl) ?_
      refine WL.call (writeString_tr _ hB _ (by (try simp only [List.length_append, List.length_cons, List.length_nil, List.length_map]); omega)) rfl rfl rfl (by first | exact .here .none | exact .there (.here .none) | exact .there (.there (.here .none)) | exact .there (.there (.there (.here .none)))) ?_
      intro u m1 back hle hΦ; obtain ⟨hm1, bk, hbk1, hB⟩ := hΦ; subst m1; subst hbk1
      refine WL.nil ?_
      refine WK.seq ?_
      refine WK.region ?_
      refine WL.call (string_tr _ hB (by (try simp only [List.length_append, List.length_cons, List.length_nil, List.length_map]); omega)) rfl rfl rfl (by first | exact .here .none | exact .there (.here .none) | exact .there (.there (.here .none)) | exact .there (.there (.there (.here .none)))) ?_
      intro u m1 back hle hΦ; obtain ⟨hu1, hm1, hbk1⟩ := hΦ; subst m1; subst hu1; subst hbk1
      refine WL.asS rfl rfl ?_
      refine WL.asC rfl ?_
      refine WL.nil ?_
      refine WK.ret ?_
      -- end
      refine WK.end2 rfl (show _ = str _ from rfl) (show _ = .int _ _ from rfl) ?_
      subst hk2
      rw [List.take_length] at hX
      rw [propLine, hX, ← hG]
      split <;> simp_all
end Go.SL
