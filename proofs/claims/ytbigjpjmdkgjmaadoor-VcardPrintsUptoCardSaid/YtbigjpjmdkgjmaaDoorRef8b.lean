/- The reference's answers about properties (chapter 8): contracts, and what is wrong with a property, and its line. -/
import Derived.Test.YtbigjpjmdkgjmaaDoorRef8
namespace Go.SL
open Go Go.Proofs
set_option linter.unusedVariables false
set_option linter.unusedSimpArgs false

def propV (g n : List UInt8) (pv : Value) (v : List UInt8) (av : Value) : Value := .agg #[str g, str n, pv, str v, av]
/-- What is wrong with a property whose Agent has al cards (8.1). -/
def chkProp (g n : List UInt8) (ps : List Par) (v : List UInt8) (al : Nat) : Int :=
  if (!decide (g = []) && !nameOk g) || !nameOk n then 14 else if decide ((6 : Int) < ps.length) then 4 else if !ps.all parOk then 3
  else if decide ((0 : Int) < al) then 5 else if decide ((2400 : Int) < v.length) then 8 else if v.any badCh then 3 else 0
def parLine (p : Par) : List UInt8 := [59] ++ (if p.1 = [] then [] else p.1 ++ [61]) ++ p.2
def propLine (g n : List UInt8) (ps : List Par) (v : List UInt8) : List UInt8 := (if g = [] then n else g ++ [46] ++ n) ++ ps.flatMap parLine ++ [58] ++ v
theorem any_take_succ {α : Type} {p : α → Bool} {l : List α} {k : Nat} (h : (l.take k).any p = false) (hlt : k < l.length) (hp : p l[k] = false) : (l.take (k + 1)).any p = false := by
  rw [List.take_succ_eq_append_getElem hlt, List.any_append, h]; simp [hp]
theorem any_true {α : Type} {p : α → Bool} {l : List α} {k : Nat} (hlt : k < l.length) (hp : p l[k] = true) : l.any p = true := by
  rw [List.any_eq_true]; exact ⟨_, List.getElem_mem hlt, hp⟩

theorem parLines_le {B : Nat} {ps : List Par} (hb : ∀ p ∈ ps, p.1.length ≤ B ∧ p.2.length ≤ B) : (ps.flatMap parLine).length ≤ ps.length * (2 * B + 2) := by
  induction ps with
  | nil => simp
  | cons p ps ih =>
    have h1 := hb p (by simp)
    have h2 := ih fun q hq => hb q (by simp [hq])
    have h3 : (parLine p).length ≤ 2 * B + 2 := by unfold parLine; split <;> simp <;> omega
    rw [List.flatMap_cons, List.length_append, List.length_cons, Nat.add_mul]; omega
theorem parLines_succ {ps : List Par} {k : Nat} (h : k < ps.length) : (ps.take (k + 1)).flatMap parLine = (ps.take k).flatMap parLine ++ parLine ps[k] := by
  rw [List.take_succ_eq_append_getElem h, List.flatMap_append]; simp [List.flatMap_cons]
theorem rcheck_pm {R : Nat → Obj → Prop} {pv : Value} {ps : List Par} (hs : Sl R 2 pv (ps.map parV)) (g n v : List UInt8) (aa : Option Addr) (al ac : Nat) (hg : g.length ≤ 1000000000) (hn : n.length ≤ 1000000000) (hv : v.length ≤ 1000000000)
    (hb : ∀ p ∈ ps, p.1.length ≤ 1000000000 ∧ p.2.length ≤ 1000000000) :
    Pm Tryd.prog 45 [propV g n pv v (.slice aa al ac)] R (.int .i64 (chkProp g n ps v al)) := by
  obtain ⟨a, c, hpv, _⟩ := hs.shape
  rw [List.length_map] at hpv
  subst hpv
  refine Pm.of Tryd.func45 Tryd.ntmps45 rfl rfl fun m w hR => ?_
  have hs' : Sl (fun b o => m b = some o) 2 _ _ := hs.mono hR
  refine WK.seq ?_
  refine WK.region ?_
  refine WL.box rfl rfl fun b1 => ?_
  refine WL.asC rfl ?_
  refine WL.nil ?_
  refine WK.seq ?_
  refine WK.seq ?_
  refine WK.mid (fun (_ : Unit) => [(19, .bool ((!decide (g = []) && !nameOk g) || !nameOk n)), (1, .pointer (some ⟨b1, 0, none⟩))]) (fun _ => m) (fun _ => [[(b1, .cells #[str g, str n, .slice a ps.length c, str v, .slice aa al ac] 42 (0, 0))]]) (fun _ => True) ?_ ?_
  · skip
    refine WK.region ?_
    refine WL.fieldO rfl rfl ?_
    refine WL.load1O rfl rfl (by first | exact .here | exact .there .here | exact .there (.there .here) | exact .there (.there (.there .here)) | exact .there (.there (.there (.there .here))) | exact .there (.there (.there (.there (.there .here))))) (show _ = some (str _) from rfl) ?_
    refine WL.neqS rfl rfl rfl ?_
    refine WL.mvB rfl rfl ?_
    refine WL.guardSplit rfl rfl (fun h1 => ?_) (fun h1 => ?_)
    · skip
      refine WL.fieldO rfl rfl ?_
      refine WL.guard rfl h1 ?_
      refine WL.load1O rfl rfl (by first | exact .here | exact .there .here | exact .there (.there .here) | exact .there (.there (.there .here)) | exact .there (.there (.there (.there .here))) | exact .there (.there (.there (.there (.there .here))))) (show _ = some (str _) from rfl) ?_
      refine WL.guard rfl h1 ?_
      refine WL.callp (rname_pu _ (by omega)) rfl rfl rfl ?_
      refine WL.guard rfl h1 ?_
      refine WL.not rfl rfl ?_
      refine WL.pickT rfl rfl h1 rfl ?_
      refine WL.mvB rfl rfl ?_
      refine WL.guardSplit rfl rfl (fun h2 => ?_) (fun h2 => ?_)
      · skip
        refine WL.fieldO rfl rfl ?_
        refine WL.guard rfl h2 ?_
        refine WL.load1O rfl rfl (by first | exact .here | exact .there .here | exact .there (.there .here) | exact .there (.there (.there .here)) | exact .there (.there (.there (.there .here))) | exact .there (.there (.there (.there (.there .here))))) (show _ = some (str _) from rfl) ?_
        refine WL.guard rfl h2 ?_
        refine WL.callp (rname_pu _ (by omega)) rfl rfl rfl ?_
        refine WL.guard rfl h2 ?_
        refine WL.not rfl rfl ?_
        refine WL.pickF rfl rfl h2 rfl ?_
        refine WL.nil ?_
        refine WK.met () trivial ⟨?_, rfl, trivial⟩ rfl rfl
        simp_all [upd, upds]
      · skip
        refine WL.guardSkip rfl h2 rfl ?_
        refine WL.guardSkip rfl h2 rfl ?_
        refine WL.guardSkip rfl h2 rfl ?_
        refine WL.pickT rfl rfl h2 rfl ?_
        refine WL.nil ?_
        refine WK.met () trivial ⟨?_, rfl, trivial⟩ rfl rfl
        simp_all [upd, upds]
    · skip
      refine WL.guardSkip rfl h1 rfl ?_
      refine WL.guardSkip rfl h1 rfl ?_
      refine WL.guardSkip rfl h1 rfl ?_
      refine WL.pickF rfl rfl h1 rfl ?_
      refine WL.mvB rfl rfl ?_
      refine WL.guard rfl rfl ?_
      refine WL.fieldO rfl rfl ?_
      refine WL.guard rfl rfl ?_
      refine WL.load1O rfl rfl (by first | exact .here | exact .there .here | exact .there (.there .here) | exact .there (.there (.there .here)) | exact .there (.there (.there (.there .here))) | exact .there (.there (.there (.there (.there .here))))) (show _ = some (str _) from rfl) ?_
      refine WL.guard rfl rfl ?_
      refine WL.callp (rname_pu _ (by omega)) rfl rfl rfl ?_
      refine WL.guard rfl rfl ?_
      refine WL.not rfl rfl ?_
      refine WL.pickF rfl rfl rfl rfl ?_
      refine WL.nil ?_
      refine WK.met () trivial ⟨?_, rfl, trivial⟩ rfl rfl
      simp_all [upd, upds]
  rintro _ ρ _
  -- cond
  refine WK.cond rfl (fun h1 => ?_) (fun h1 => ?_)
  · refine WK.seq ?_
    refine WK.region ?_
    refine WL.asC rfl ?_
    refine WL.nil ?_
    refine WK.ret ?_
    refine WK.ret_code ?_
    -- end
    refine WK.end1 rfl (show _ = .int _ _ from rfl) ?_
    simp only [chkProp, h1, Bool.not_true, Bool.not_false, Bool.false_eq_true, if_false, if_true]
  · skip
    refine WK.skip ?_
    refine WK.seq ?_
    refine WK.seq ?_
    refine WK.region ?_
    refine WL.fieldO rfl rfl ?_
    refine WL.load1O rfl rfl (by first | exact .here | exact .there .here | exact .there (.there .here) | exact .there (.there (.there .here)) | exact .there (.there (.there (.there .here))) | exact .there (.there (.there (.there (.there .here))))) (show _ = some (.slice _ _ _) from rfl) ?_
    refine WL.lenSl rfl rfl ?_
    refine WL.gtr rfl rfl rfl ?_
    refine WL.nil ?_
    -- cond
    refine WK.cond rfl (fun h2 => ?_) (fun h2 => ?_)
    · refine WK.seq ?_
      refine WK.region ?_
      refine WL.asC rfl ?_
      refine WL.nil ?_
      refine WK.ret ?_
      refine WK.ret_code ?_
      -- end
      refine WK.end1 rfl (show _ = .int _ _ from rfl) ?_
      simp only [chkProp, h1, h2, Bool.not_true, Bool.not_false, Bool.false_eq_true, if_false, if_true]
    · skip
      have hk6 : ps.length ≤ 6 := by simp at h2; omega
      refine WK.skip ?_
      refine WK.seq ?_
      refine WK.seq ?_
      refine WK.region ?_
      refine WL.asC rfl ?_
      refine WL.nil ?_
      refine WK.block ?_
      -- loop
      refine WK.loop (fun (k : Nat) => [(3, .int .i64 (k : Nat)), (1, .pointer (some ⟨b1, 0, none⟩))]) (fun _ => m) (fun _ => [[(b1, .cells #[str g, str n, .slice a ps.length c, str v, .slice aa al ac] 42 (0, 0))]])
        (fun k => k ≤ ps.length ∧ (ps.take k).all parOk = true) (fun k => ps.length - k) 0 ⟨by omega, by simp⟩ ⟨rfl, rfl, trivial⟩ rfl rfl ?_
      rintro k ρ ⟨hk, hall⟩
      refine WK.seq ?_
      refine WK.seq ?_
      refine WK.region ?_
      refine WL.mvI rfl rfl ?_
      refine WL.fieldO rfl rfl ?_
      refine WL.load1O rfl rfl (by first | exact .here | exact .there .here | exact .there (.there .here) | exact .there (.there (.there .here)) | exact .there (.there (.there (.there .here))) | exact .there (.there (.there (.there (.there .here))))) (show _ = some (.slice _ _ _) from rfl) ?_
      refine WL.lenSl rfl rfl ?_
      refine WL.lss rfl rfl rfl ?_
      refine WL.nil ?_
      -- cond
      refine WK.cond rfl (fun h => ?_) (fun h => ?_)
      · have hlt : k < ps.length := by simpa using h
        have hc : (ps.map parV)[k]? = some (parV ps[k]) := by simp [hlt]
        have hbk := hb _ (List.getElem_mem hlt)
        refine WK.skip ?_
        refine WK.seq ?_
        refine WK.block ?_
        refine WK.seq ?_
        refine WK.region ?_
        refine WL.fieldO rfl rfl ?_
        refine WL.load1O rfl rfl (by first | exact .here | exact .there .here | exact .there (.there .here) | exact .there (.there (.there .here)) | exact .there (.there (.there (.there .here))) | exact .there (.there (.there (.there (.there .here))))) (show _ = some (.slice _ _ _) from rfl) ?_
        refine WL.mvI rfl rfl ?_
        refine WL.indexE rfl rfl hs' rfl rfl hc fun p34 hp34 => ?_
        refine WL.loadA rfl rfl (hp34.rd (Le.refl _)) rfl ?_
        refine WL.callp (rparam_pu _ (by omega) (by omega)) rfl rfl rfl ?_
        refine WL.not rfl rfl ?_
        refine WL.nil ?_
        -- cond
        refine WK.cond rfl (fun h4 => ?_) (fun h4 => ?_)
        · refine WK.seq ?_
          refine WK.region ?_
          refine WL.asC rfl ?_
          refine WL.nil ?_
          refine WK.ret ?_
          refine WK.ret_blk ?_
          refine WK.ret_code ?_
          refine WK.ret_lp ?_
          refine WK.ret_blk ?_
          refine WK.ret_code ?_
          -- end
          refine WK.end1 rfl (show _ = .int _ _ from rfl) ?_
          have hx := all_false hlt (by simpa using h4); simp only [chkProp, h1, h2, hx, Bool.not_false, Bool.false_eq_true, if_false, if_true]
        · skip
          refine WK.skip ?_
          refine WK.blk ?_
          refine WK.region ?_
          refine WL.mvI rfl rfl ?_
          refine WL.add rfl rfl rfl (by omega) ?_
          refine WL.asI rfl rfl ?_
          refine WL.nil ?_
          -- again
          exact WK.again (k + 1) ⟨by omega, all_take_succ hall hlt (by simpa using h4)⟩ (by omega) ⟨rfl, rfl, trivial⟩ rfl rfl
      · skip
        have hk2 : k = ps.length := by simp at h; omega
        subst hk2
        rw [List.take_length] at hall
        refine WK.exit ?_
        refine WK.exit_code ?_
        refine WK.exit_lp ?_
        refine WK.exit_hit ?_
        refine WK.seq ?_
        refine WK.seq ?_
        refine WK.region ?_
        refine WL.fieldO rfl rfl ?_
        refine WL.load1O rfl rfl (by first | exact .here | exact .there .here | exact .there (.there .here) | exact .there (.there (.there .here)) | exact .there (.there (.there (.there .here))) | exact .there (.there (.there (.there (.there .here))))) (show _ = some (.slice _ _ _) from rfl) ?_
        refine WL.lenSl rfl rfl ?_
        refine WL.gtr rfl rfl rfl ?_
        refine WL.nil ?_
        -- cond
        refine WK.cond rfl (fun h5 => ?_) (fun h5 => ?_)
        · refine WK.seq ?_
          refine WK.region ?_
          refine WL.asC rfl ?_
          refine WL.nil ?_
          refine WK.ret ?_
          refine WK.ret_code ?_
          -- end
          refine WK.end1 rfl (show _ = .int _ _ from rfl) ?_
          simp only [chkProp, h1, h2, hall, h5, Bool.not_true, Bool.not_false, Bool.false_eq_true, if_false, if_true]
        · skip
          refine WK.skip ?_
          refine WK.seq ?_
          refine WK.seq ?_
          refine WK.region ?_
          refine WL.fieldO rfl rfl ?_
          refine WL.load1O rfl rfl (by first | exact .here | exact .there .here | exact .there (.there .here) | exact .there (.there (.there .here)) | exact .there (.there (.there (.there .here))) | exact .there (.there (.there (.there (.there .here))))) (show _ = some (str _) from rfl) ?_
          refine WL.lenS rfl rfl ?_
          refine WL.gtr rfl rfl rfl ?_
          refine WL.nil ?_
          -- cond
          refine WK.cond rfl (fun h6 => ?_) (fun h6 => ?_)
          · refine WK.seq ?_
            refine WK.region ?_
            refine WL.asC rfl ?_
            refine WL.nil ?_
            refine WK.ret ?_
            refine WK.ret_code ?_
            -- end
            refine WK.end1 rfl (show _ = .int _ _ from rfl) ?_
            simp only [chkProp, h1, h2, hall, h5, h6, Bool.not_true, Bool.not_false, Bool.false_eq_true, if_false, if_true]
          · skip
            refine WK.skip ?_
            refine WK.seq ?_
            refine WK.seq ?_
            refine WK.region ?_
            refine WL.asC rfl ?_
            refine WL.nil ?_
            refine WK.block ?_
            -- loop
            refine WK.loop (fun (k : Nat) => [(4, .int .i64 (k : Nat)), (1, .pointer (some ⟨b1, 0, none⟩))]) (fun _ => m) (fun _ => [[(b1, .cells #[str g, str n, .slice a ps.length c, str v, .slice aa al ac] 42 (0, 0))]])
              (fun k => k ≤ v.length ∧ (v.take k).any badCh = false) (fun k => v.length - k) 0 ⟨by omega, by simp⟩ ⟨rfl, rfl, trivial⟩ rfl rfl ?_
            rintro k ρ ⟨hk, hany⟩
            refine WK.seq ?_
            refine WK.seq ?_
            refine WK.region ?_
            refine WL.mvI rfl rfl ?_
            refine WL.fieldO rfl rfl ?_
            refine WL.load1O rfl rfl (by first | exact .here | exact .there .here | exact .there (.there .here) | exact .there (.there (.there .here)) | exact .there (.there (.there (.there .here))) | exact .there (.there (.there (.there (.there .here))))) (show _ = some (str _) from rfl) ?_
            refine WL.lenS rfl rfl ?_
            refine WL.lss rfl rfl rfl ?_
            refine WL.nil ?_
            -- cond
            refine WK.cond rfl (fun h => ?_) (fun h => ?_)
            · have hlt : k < v.length := by simpa using h
              have hc : v[k]? = some v[k] := by simp [hlt]
              refine WK.skip ?_
              refine WK.seq ?_
              refine WK.block ?_
              refine WK.seq ?_
              refine WK.region ?_
              refine WL.fieldO rfl rfl ?_
              refine WL.load1O rfl rfl (by first | exact .here | exact .there .here | exact .there (.there .here) | exact .there (.there (.there .here)) | exact .there (.there (.there (.there .here))) | exact .there (.there (.there (.there (.there .here))))) (show _ = some (str _) from rfl) ?_
              refine WL.mvI rfl rfl ?_
              refine WL.indexS rfl rfl rfl rfl (by assumption) ?_
              refine WL.callp (odd8_pu _) rfl rfl rfl ?_
              refine WL.nil ?_
              -- cond
              refine WK.cond rfl (fun h4 => ?_) (fun h4 => ?_)
              · refine WK.seq ?_
                refine WK.region ?_
                refine WL.asC rfl ?_
                refine WL.nil ?_
                refine WK.ret ?_
                refine WK.ret_blk ?_
                refine WK.ret_code ?_
                refine WK.ret_lp ?_
                refine WK.ret_blk ?_
                refine WK.ret_code ?_
                -- end
                refine WK.end1 rfl (show _ = .int _ _ from rfl) ?_
                simp only [chkProp, h1, h2, hall, h5, h6, (any_true hlt h4 : v.any badCh = true), Bool.not_true, Bool.not_false, Bool.false_eq_true, if_false, if_true]
              · skip
                refine WK.skip ?_
                refine WK.blk ?_
                refine WK.region ?_
                refine WL.mvI rfl rfl ?_
                refine WL.add rfl rfl rfl (by omega) ?_
                refine WL.asI rfl rfl ?_
                refine WL.nil ?_
                -- again
                exact WK.again (k + 1) ⟨by omega, any_take_succ hany hlt (by simpa using h4)⟩ (by omega) ⟨rfl, rfl, trivial⟩ rfl rfl
            · skip
              have hk2 : k = v.length := by simp at h; omega
              subst hk2
              rw [List.take_length] at hany
              refine WK.exit ?_
              refine WK.exit_code ?_
              refine WK.exit_lp ?_
              refine WK.exit_hit ?_
              refine WK.seq ?_
              refine WK.region ?_
              refine WL.asC rfl ?_
              refine WL.nil ?_
              refine WK.ret ?_
              -- end
              refine WK.end1 rfl (show _ = .int _ _ from rfl) ?_
              simp only [chkProp, h1, h2, hall, h5, h6, hany, Bool.not_true, Bool.not_false, Bool.false_eq_true, if_false, if_true]

theorem rprint_pm {R : Nat → Obj → Prop} {pv : Value} {ps : List Par} (hs : Sl R 2 pv (ps.map parV)) (g n v : List UInt8) (aa : Option Addr) (al ac : Nat) (hg : g.length ≤ 1000000000) (hn : n.length ≤ 1000000000) (hv : v.length ≤ 1000000000)
    (hb : ∀ p ∈ ps, p.1.length ≤ 1000000000 ∧ p.2.length ≤ 1000000000) :
    Pm Tryd.prog 30 [propV g n pv v (.slice aa al ac)] R (.tuple #[str (if chkProp g n ps v al = 0 then propLine g n ps v else []), .int .i64 (chkProp g n ps v al)]) := by
  obtain ⟨a, c, hpv, _⟩ := hs.shape
  rw [List.length_map] at hpv
  subst hpv
  refine Pm.of Tryd.func30 Tryd.ntmps30 rfl rfl fun m w hR => ?_
  have hs' : Sl (fun b o => m b = some o) 2 _ _ := hs.mono hR
  refine WK.seq ?_
  refine WK.region ?_
  refine WL.box rfl rfl fun b1 => ?_
  refine WL.asC rfl ?_
  refine WL.asC rfl ?_
  refine WL.nil ?_
  refine WK.seq ?_
  refine WK.region ?_
  refine WL.loadAO rfl rfl (by first | exact .here | exact .there .here | exact .there (.there .here) | exact .there (.there (.there .here)) | exact .there (.there (.there (.there .here))) | exact .there (.there (.there (.there (.there .here))))) (by rfl) ?_
  refine WL.callm (rcheck_pm (hs'.rd (Le.refl _)) g n v aa al ac hg hn hv hb) rfl rfl rfl ?_
  refine WL.asI rfl rfl ?_
  refine WL.nil ?_
  refine WK.seq ?_
  refine WK.seq ?_
  refine WK.region ?_
  refine WL.mvI rfl rfl ?_
  refine WL.neq rfl rfl rfl ?_
  refine WL.nil ?_
  -- cond
  refine WK.cond rfl (fun h1 => ?_) (fun h1 => ?_)
  · refine WK.seq ?_
    refine WK.region ?_
    refine WL.mvI rfl rfl ?_
    refine WL.asC rfl ?_
    refine WL.asI rfl rfl ?_
    refine WL.nil ?_
    refine WK.ret ?_
    refine WK.ret_code ?_
    -- end
    refine WK.end2 rfl (show _ = str _ from rfl) (show _ = .int _ _ from rfl) ?_
    have h1' : ¬ chkProp g n ps v al = 0 := by simpa using h1
    rw [if_neg h1']
  · skip
    have h1' : chkProp g n ps v al = 0 := by simpa using h1
    have hk6 : ps.length ≤ 6 := by
      have := h1'
      unfold chkProp at this
      (repeat' split at this) <;> first | omega | (rename_i h _ _ _ _; simp at h; omega) | skip
    rw [if_pos h1', h1']
    refine WK.skip ?_
    refine WK.seq ?_
    refine WK.region ?_
    refine WL.fieldO rfl rfl ?_
    refine WL.load1O rfl rfl (by first | exact .here | exact .there .here | exact .there (.there .here) | exact .there (.there (.there .here)) | exact .there (.there (.there (.there .here))) | exact .there (.there (.there (.there (.there .here))))) (show _ = some (str _) from rfl) ?_
    refine WL.asS rfl rfl ?_
    refine WL.nil ?_
    refine WK.seq ?_
    refine WK.mid (fun (_ : Unit) => [(5, str (if g = [] then n else g ++ [46] ++ n)), (1, .pointer (some ⟨b1, 0, none⟩))]) (fun _ => m) (fun _ => [[(b1, .cells #[str g, str n, .slice a ps.length c, str v, .slice aa al ac] 42 (0, 0))]]) (fun _ => True) ?_ ?_
    · skip
      refine WK.seq ?_
      refine WK.region ?_
      refine WL.fieldO rfl rfl ?_
      refine WL.load1O rfl rfl (by first | exact .here | exact .there .here | exact .there (.there .here) | exact .there (.there (.there .here)) | exact .there (.there (.there (.there .here))) | exact .there (.there (.there (.there (.there .here))))) (show _ = some (str _) from rfl) ?_
      refine WL.neqS rfl rfl rfl ?_
      refine WL.nil ?_
      refine WK.cond rfl (fun h1 => ?_) (fun h1 => ?_)
      · skip
        refine WK.region ?_
        refine WL.fieldO rfl rfl ?_
        refine WL.load1O rfl rfl (by first | exact .here | exact .there .here | exact .there (.there .here) | exact .there (.there (.there .here)) | exact .there (.there (.there (.there .here))) | exact .there (.there (.there (.there (.there .here))))) (show _ = some (str _) from rfl) ?_
        refine WL.addS rfl rfl rfl (by simp; omega) ?_
        refine WL.mvS rfl rfl ?_
        refine WL.addS rfl rfl rfl (by simp; omega) ?_
        refine WL.asS rfl rfl ?_
        refine WL.nil ?_
        refine WK.met () trivial ⟨congrArg str ?_, rfl, trivial⟩ rfl rfl
        simp_all
      · skip
        refine WK.skip ?_
        refine WK.met () trivial ⟨congrArg str ?_, rfl, trivial⟩ rfl rfl
        simp_all
    rintro _ ρ _
    have hL : (if g = [] then n else g ++ [46] ++ n).length ≤ 2000000001 := by split <;> (try simp only [List.length_append, List.length_cons, List.length_nil]) <;> omega
    generalize hG : (if g = [] then n else g ++ [46] ++ n) = G at *
    refine WK.seq ?_
    refine WK.seq ?_
    refine WK.region ?_
    refine WL.asC rfl ?_
    refine WL.nil ?_
    refine WK.block ?_
    -- loop
    refine WK.loop (fun (k : Nat) => [(6, .int .i64 (k : Nat)), (5, str (G ++ (ps.take k).flatMap parLine)), (1, .pointer (some ⟨b1, 0, none⟩))]) (fun _ => m) (fun _ => [[(b1, .cells #[str g, str n, .slice a ps.length c, str v, .slice aa al ac] 42 (0, 0))]])
      (fun k => k ≤ ps.length) (fun k => ps.length - k) 0 (by omega) ⟨rfl, congrArg str (by simp), rfl, trivial⟩ rfl rfl ?_
    rintro k ρ hk
    have hF : ((ps.take k).flatMap parLine).length ≤ 6 * 2000000002 := Nat.le_trans (parLines_le (B := 1000000000) fun p hp => hb p (List.mem_of_mem_take hp)) (Nat.mul_le_mul_right _ (by rw [List.length_take]; omega))
    generalize hX : G ++ (ps.take k).flatMap parLine = X
    have hXl : X.length ≤ 20000000000 := by rw [← hX, List.length_append]; omega
    refine WK.seq ?_
    refine WK.seq ?_
    refine WK.region ?_
    refine WL.mvI rfl rfl ?_
    refine WL.fieldO rfl rfl ?_
    refine WL.load1O rfl rfl (by first | exact .here | exact .there .here | exact .there (.there .here) | exact .there (.there (.there .here)) | exact .there (.there (.there (.there .here))) | exact .there (.there (.there (.there (.there .here))))) (show _ = some (.slice _ _ _) from rfl) ?_
    refine WL.lenSl rfl rfl ?_
    refine WL.lss rfl rfl rfl ?_
    refine WL.nil ?_
    -- cond
    refine WK.cond rfl (fun h => ?_) (fun h => ?_)
    · have hlt : k < ps.length := by simpa using h
      have hc : (ps.map parV)[k]? = some (parV ps[k]) := by simp [hlt]
      have hbk := hb _ (List.getElem_mem hlt)
      refine WK.skip ?_
      refine WK.seq ?_
      refine WK.block ?_
      refine WK.seq ?_
      refine WK.region ?_
      refine WL.mvS rfl rfl ?_
      refine WL.addS rfl rfl rfl (by simp; omega) ?_
      refine WL.asS rfl rfl ?_
      refine WL.nil ?_
      refine WK.seq ?_
      refine WK.seq ?_
      refine WK.region ?_
      refine WL.fieldO rfl rfl ?_
      refine WL.load1O rfl rfl (by first | exact .here | exact .there .here | exact .there (.there .here) | exact .there (.there (.there .here)) | exact .there (.there (.there (.there .here))) | exact .there (.there (.there (.there (.there .here))))) (show _ = some (.slice _ _ _) from rfl) ?_
      refine WL.mvI rfl rfl ?_
      refine WL.indexE rfl rfl hs' rfl rfl hc fun p34 hp34 => ?_
      refine WL.fieldE rfl rfl hp34 fun q35 hq35 => ?_
      refine WL.load1 rfl rfl (hq35.rd (Le.refl _)) ?_
      refine WL.neqS rfl rfl rfl ?_
      refine WL.nil ?_
      refine WK.cond rfl (fun h1 => ?_) (fun h1 => ?_)
      · skip
        refine WK.region ?_
        refine WL.mvS rfl rfl ?_
        refine WL.fieldO rfl rfl ?_
        refine WL.load1O rfl rfl (by first | exact .here | exact .there .here | exact .there (.there .here) | exact .there (.there (.there .here)) | exact .there (.there (.there (.there .here))) | exact .there (.there (.there (.there (.there .here))))) (show _ = some (.slice _ _ _) from rfl) ?_
        refine WL.mvI rfl rfl ?_
        refine WL.indexE rfl rfl hs' rfl rfl hc fun p42 hp42 => ?_
        refine WL.fieldE rfl rfl hp42 fun q43 hq43 => ?_
        refine WL.load1 rfl rfl (hq43.rd (Le.refl _)) ?_
        refine WL.addS rfl rfl rfl (by simp; omega) ?_
        refine WL.addS rfl rfl rfl (by simp; omega) ?_
        refine WL.asS rfl rfl ?_
        refine WL.nil ?_
        refine WK.region ?_
        refine WL.mvS rfl rfl ?_
        refine WL.fieldO rfl rfl ?_
        refine WL.load1O rfl rfl (by first | exact .here | exact .there .here | exact .there (.there .here) | exact .there (.there (.there .here)) | exact .there (.there (.there (.there .here))) | exact .there (.there (.there (.there (.there .here))))) (show _ = some (.slice _ _ _) from rfl) ?_
        refine WL.mvI rfl rfl ?_
        refine WL.indexE rfl rfl hs' rfl rfl hc fun p51 hp51 => ?_
        refine WL.fieldE rfl rfl hp51 fun q52 hq52 => ?_
        refine WL.load1 rfl rfl (hq52.rd (Le.refl _)) ?_
        refine WL.addS rfl rfl rfl (by simp; omega) ?_
        refine WL.asS rfl rfl ?_
        refine WL.nil ?_
        refine WK.blk ?_
        refine WK.region ?_
        refine WL.mvI rfl rfl ?_
        refine WL.add rfl rfl rfl (by omega) ?_
        refine WL.asI rfl rfl ?_
        refine WL.nil ?_
        refine WK.again (k + 1) (by omega) (by omega) ⟨rfl, congrArg str ?_, rfl, trivial⟩ rfl rfl
        rw [parLines_succ hlt, ← List.append_assoc, hX]
        simp_all [parLine]
      · skip
        refine WK.skip ?_
        refine WK.region ?_
        refine WL.mvS rfl rfl ?_
        refine WL.fieldO rfl rfl ?_
        refine WL.load1O rfl rfl (by first | exact .here | exact .there .here | exact .there (.there .here) | exact .there (.there (.there .here)) | exact .there (.there (.there (.there .here))) | exact .there (.there (.there (.there (.there .here))))) (show _ = some (.slice _ _ _) from rfl) ?_
        refine WL.mvI rfl rfl ?_
        refine WL.indexE rfl rfl (by assumption) rfl rfl (by assumption) fun p51 hp51 => ?_
        refine WL.fieldE rfl rfl hp51 fun q52 hq52 => ?_
        refine WL.load1 rfl rfl (hq52.rd (Le.refl _)) ?_
        refine WL.addS rfl rfl rfl (by simp; omega) ?_
        refine WL.asS rfl rfl ?_
        refine WL.nil ?_
        refine WK.blk ?_
        refine WK.region ?_
        refine WL.mvI rfl rfl ?_
        refine WL.add rfl rfl rfl (by omega) ?_
        refine WL.asI rfl rfl ?_
        refine WL.nil ?_
        refine WK.again (k + 1) (by omega) (by omega) ⟨rfl, congrArg str ?_, rfl, trivial⟩ rfl rfl
        rw [parLines_succ hlt, ← List.append_assoc, hX]
        simp_all [parLine]
    · skip
      have hk2 : k = ps.length := by simp at h; omega
      refine WK.exit ?_
      refine WK.exit_code ?_
      refine WK.exit_lp ?_
      refine WK.exit_hit ?_
      refine WK.seq ?_
      refine WK.region ?_
      refine WL.mvS rfl rfl ?_
      refine WL.addS rfl rfl rfl (by simp; omega) ?_
      refine WL.fieldO rfl rfl ?_
      refine WL.load1O rfl rfl (by first | exact .here | exact .there .here | exact .there (.there .here) | exact .there (.there (.there .here)) | exact .there (.there (.there (.there .here))) | exact .there (.there (.there (.there (.there .here))))) (show _ = some (str _) from rfl) ?_
      refine WL.addS rfl rfl rfl (by simp; omega) ?_
      refine WL.asS rfl rfl ?_
      refine WL.asC rfl ?_
      refine WL.nil ?_
      refine WK.ret ?_
      -- end
      refine WK.end2 rfl (show _ = str _ from rfl) (show _ = .int _ _ from rfl) ?_
      subst hk2
      rw [List.take_length] at hX; rw [propLine, hG, hX]
end Go.SL
