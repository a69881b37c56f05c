/- vcard.appendLines: a card's lines behind others: contract. -/
import Derived.Test.YtbigjpjmdkgjmaaDoorRaw
namespace Go.SL
open Go Go.Proofs
set_option linter.unusedVariables false
set_option linter.unusedSimpArgs false

def partL (d : Nat) (p : Hd × List Crd) : List (List UInt8) := foldP p.1 ++ p.2.flatMap (cardL d)
theorem cardL_eq (d : Nat) (c : Crd) : cardL (d + 1) c = [beginL, versionL] ++ c.props.flatMap (partL d) ++ [endL] := rfl
theorem cardL_count {d : Nat} {c : Crd} (h : chkC d c = 0) : (cardL d c).length ≤ capN d := Nat.le_trans (join_ge _) (cardL_len d c h)
theorem partL_count {d : Nat} {p : Hd × List Crd} (h1 : p.2.length ≤ 1) (h2 : ∀ a ∈ p.2, chkC d a = 0) : (partL d p).length ≤ 10000 + capN d := by
  have h3 := (foldP_len p.1).1
  have h4 := flatMap_le (B := capN d) (f := cardL d) p.2 fun a ha => cardL_count (h2 a ha)
  have h5 : p.2.length * capN d ≤ 1 * capN d := Nat.mul_le_mul_right _ h1
  rw [partL, List.length_append]; omega
theorem chkPs_go {f : Crd → Int} {p : Hd × List Crd} {l : List (Hd × List Crd)} (h1 : chkOne p.1 p.2.length = 0) (h2 : ∀ a ∈ p.2, f a = 0) : chkPs f (p :: l) = chkPs f l := by
  have h3 : agE f p.2 = 0 := by
    match p.2, h2 with
    | [], _ => rfl
    | a :: r, h2 => exact h2 a (List.mem_cons_self ..)
  rw [chkPs, if_neg (by rw [h1]; decide), if_neg (by rw [h3]; decide)]
theorem chkPs_one {f : Crd → Int} {p : Hd × List Crd} {l : List (Hd × List Crd)} (h1 : ¬ chkOne p.1 p.2.length = 0) : chkPs f (p :: l) = chkOne p.1 p.2.length := by
  rw [chkPs, if_pos (by simpa using h1)]
theorem chkPs_ag {f : Crd → Int} {p : Hd × List Crd} {l : List (Hd × List Crd)} (h1 : chkOne p.1 p.2.length = 0) {a : Crd} {r : List Crd} (h2 : p.2 = a :: r) (h3 : ¬ f a = 0) : chkPs f (p :: l) = f a := by
  rw [chkPs, if_neg (by rw [h1]; decide), h2]
  show (if (!decide (f a = 0)) = true then f a else _) = _
  rw [if_pos (by simpa using h3)]

theorem OSl.xs {blk : Bun} {k : Nat} {t : TypeId} {v : Value} {xs ys : List Value} (h : OSl blk k t v xs) (e : xs = ys) : OSl blk k t v ys := e ▸ h
set_option maxRecDepth 100000 in
theorem appL_tr : ∀ (d : Nat) {m : Imm} {v lv : Value} {c : Crd} {blk : Bun} {L : List (List UInt8)}, Tabs (fun b o => m b = some o) → RepC (fun b o => m b = some o) d v c → Deepest d c → OSl blk 1 9 lv (L.map str) → L.length + capN d ≤ 1000000000 →
    Tr Tryd.prog 11 [lv, v] m [blk] fun u m' own' => m' = m ∧ ∃ a l k blk', u = .tuple #[.slice a l k, .int .i64 (chkC d c)] ∧ own' = [blk'] ∧ (chkC d c = 0 → OSl blk' 1 9 (.slice a l k) ((L ++ cardL d c).map str))
  | 0, _, _, _, _, _, _, _, _, hd, _, _ => hd.elim
  | d + 1, m, v, lv, c, blk, L, hT, hc, hdp, hL, hcap => by
    obtain ⟨pv, vs, rfl, hs, hlen, hbig, hel⟩ := hc
    obtain ⟨a, k, hpv, _⟩ := hs.shape
    subst hpv
    obtain ⟨a0, c0, hlv, _⟩ := hL.shape
    rw [List.length_map] at hlv
    subst hlv
    have hcap2 : capN (d + 1) = 24 * (10000 + capN d) + 100 := rfl
    rw [hcap2] at hcap
    refine Tr.of Tryd.func11 Tryd.ntmps11 rfl rfl fun w => ?_
    refine WK.seq ?_
    refine WK.region ?_
    refine WL.box rfl rfl fun b3 => ?_
    refine WL.asC rfl ?_
    refine WL.asC rfl ?_
    refine WL.nil ?_
    refine WK.seq ?_
    refine WK.seq ?_
    refine WK.region ?_
    refine WL.fieldO rfl rfl ?_
    refine WL.load1O rfl rfl (by first | exact .here | exact .there .here | exact .there (.there .here) | exact .there (.there (.there .here)) | exact .there (.there (.there (.there .here))) | exact .there (.there (.there (.there (.there .here))))) (show _ = some (.slice _ _ _) from rfl) ?_
    refine WL.lenSl rfl rfl ?_
    refine WL.gtr rfl rfl rfl ?_
    refine WL.nil ?_
    -- cond
    refine WK.cond rfl (fun e1 => ?_) (fun e1 => ?_)
    · refine WK.seq ?_
      refine WK.region ?_
      refine WL.asC rfl ?_
      refine WL.asC rfl ?_
      refine WL.nil ?_
      refine WK.ret ?_
      refine WK.ret_code ?_
      -- end
      refine WK.drop (.drop .refl) ?_
      refine WK.end2 rfl (show _ = .slice _ _ _ from rfl) (show _ = .int _ _ from rfl) ?_
      have e2 : chkC (d + 1) c = 4 := by rw [chkC, if_pos (by rw [← hlen]; exact e1)]
      exact ⟨rfl, _, _, _, _, by rw [e2], rfl, fun h => by rw [e2] at h; cases h⟩
    · skip
      have e2 : chkC (d + 1) c = chkPs (chkC d) c.props := by rw [chkC, if_neg (by rw [← hlen, e1]; decide)]
      have e3 : vs.length ≤ 24 := by simp at e1; omega
      rw [e2]
      refine WK.skip ?_
      refine WK.seq ?_
      refine WK.region ?_
      refine WL.mvL rfl rfl ?_
      refine WL.buildSlice rfl [(str _), (str _)] rfl rfl ⟨Fit.one rfl, Fit.one rfl, trivial⟩ rfl fun b19 blk19 v19 hb19 hO19 => ?_
      obtain ⟨a19, c19, hv19, hc19⟩ := hO19.shape; subst hv19
      refine WL.append rfl rfl hL (by first | exact .here | exact .there .here | exact .there (.there .here) | exact .there (.there (.there .here)) | exact .there (.there (.there (.there .here))) | exact .there (.there (.there (.there (.there .here))))) rfl (hO19.sl fun p hp => .inr (At.mem (by first | exact .here | exact .there .here | exact .there (.there .here) | exact .there (.there (.there .here)) | exact .there (.there (.there (.there .here))) | exact .there (.there (.there (.there (.there .here))))) p hp)) rfl rfl (by simp; omega) _ (fun _ => (by first | exact .here | exact .there .here | exact .there (.there .here) | exact .there (.there (.there .here)) | exact .there (.there (.there (.there .here))) | exact .there (.there (.there (.there (.there .here)))))) fun v20 blk20 hO20 => ?_
      obtain ⟨a20, c20, hv20, hc20⟩ := hO20.shape; subst hv20
      refine WL.drop (.drop .refl) ?_
      refine WL.asL rfl rfl ?_
      refine WL.nil ?_
      refine WK.seq ?_
      refine WK.seq ?_
      refine WK.region ?_
      refine WL.fieldO rfl rfl ?_
      refine WL.load1O rfl rfl (by first | exact .here | exact .there .here | exact .there (.there .here) | exact .there (.there (.there .here)) | exact .there (.there (.there (.there .here))) | exact .there (.there (.there (.there (.there .here))))) (show _ = some (.slice _ _ _) from rfl) ?_
      refine WL.lenSl rfl rfl ?_
      refine WL.mvC rfl ?_
      refine WL.nil ?_
      refine WK.block ?_
      -- loop
      have IH : ∀ {v lv : Value} {c : Crd} {blk : Bun} {L : List (List UInt8)}, RepC (fun b o => m b = some o) d v c → Deepest d c → OSl blk 1 9 lv (L.map str) → L.length + capN d ≤ 1000000000 → _ := fun h1 h2 h3 h4 => appL_tr d hT h1 h2 h3 h4
      refine WK.drop (own' := [blk20]) (.drop .refl) ?_
      refine WK.loop (G := Nat × List (List UInt8) × Value × Bun) (fun g => [(24, .int .i64 (g.1 : Nat)), (0, g.2.2.1), (23, .int .i64 (vs.length : Nat)), (22, .slice a vs.length k)]) (fun _ => m) (fun g => [g.2.2.2])
        (fun g => g.1 ≤ vs.length ∧ g.2.1 = (c.props.take g.1).flatMap (partL d) ∧ g.2.1.length ≤ g.1 * (10000 + capN d) ∧ chkPs (chkC d) c.props = chkPs (chkC d) (c.props.drop g.1) ∧ OSl g.2.2.2 1 9 g.2.2.1 ((L ++ [beginL, versionL] ++ g.2.1).map str)) (fun g => vs.length - g.1) (0, [], _, _)
        ⟨by simp, rfl, by simp, rfl, by rw [List.append_nil, List.map_append]; exact hO20⟩ ⟨rfl, rfl, rfl, rfl, trivial⟩ rfl rfl ?_
      rintro ⟨i, X, v0, bk⟩ ρ ⟨hi, hX, hXl, hch, hO⟩
      replace hi : i ≤ vs.length := hi
      replace hX : X = (c.props.take i).flatMap (partL d) := hX
      replace hXl : X.length ≤ i * (10000 + capN d) := hXl
      replace hch : chkPs (chkC d) c.props = chkPs (chkC d) (c.props.drop i) := hch
      replace hO : OSl bk 1 9 v0 ((L ++ [beginL, versionL] ++ X).map str) := hO
      have hXl2 : i * (10000 + capN d) ≤ 24 * (10000 + capN d) := Nat.mul_le_mul_right _ (by omega)
      obtain ⟨a1, c1, hv1, _⟩ := hO.shape
      rw [List.length_map] at hv1
      subst hv1
      refine WK.seq ?_
      refine WK.region ?_
      refine WL.lss rfl rfl rfl ?_
      refine WL.nil ?_
      refine WK.seq ?_
      -- cond
      refine WK.cond rfl (fun h => ?_) (fun h => ?_)
      · have hlt : i < vs.length := by simpa using h
        have hlt2 : i < c.props.length := by omega
        have hXl3 : (i + 1) * (10000 + capN d) ≤ 24 * (10000 + capN d) := Nat.mul_le_mul_right _ (by omega)
        rw [Nat.add_mul, Nat.one_mul] at hXl3
        have hv : vs[i]? = some vs[i] := by simp [hlt]
        obtain ⟨h0, sp, sa, cs, hx, hsp, hsa, hcl, hcb, hce⟩ := hel i vs[i] c.props[i] hv (by simp [hlt2])
        have hdrop : c.props.drop i = c.props[i] :: c.props.drop (i + 1) := List.drop_eq_getElem_cons hlt2
        have hdeep : ∀ a ∈ (c.props[i]).2, Deepest d a := hdp _ (List.getElem_mem hlt2)
        obtain ⟨a2, k2, hsav, _⟩ := hsa.shape
        subst hsav
        obtain ⟨a4, k4, hspv, _⟩ := hsp.shape
        subst hspv
        rw [hx] at hv
        have hfit := hs.one hv
        refine WK.skip ?_
        refine WK.seq ?_
        refine WK.block ?_
        refine WK.seq ?_
        refine WK.region ?_
        refine WL.indexE rfl rfl hs rfl rfl hv fun p26 hp26 => ?_
        refine WL.loadA rfl rfl (hp26.rd (Le.refl _)) rfl ?_
        refine WL.alloc rfl fun b7 => ?_
        refine WL.storeAO rfl rfl rfl (by first | exact .here | exact .there .here | exact .there (.there .here) | exact .there (.there (.there .here)) | exact .there (.there (.there (.there .here))) | exact .there (.there (.there (.there (.there .here))))) (by rfl) (by rfl) hfit.2 ?_
        refine WL.nil ?_
        refine WK.seq ?_
        refine WK.seq ?_
        refine WK.region ?_
        refine WL.loadAO rfl rfl (by first | exact .here | exact .there .here | exact .there (.there .here) | exact .there (.there (.there .here)) | exact .there (.there (.there (.there .here))) | exact .there (.there (.there (.there (.there .here))))) (by rfl) ?_
        refine WL.callm (vcheck_pm h0 (hsp.rd (Le.refl _)) a2 cs.length k2) rfl rfl rfl ?_
        refine WL.asI rfl rfl ?_
        refine WL.nil ?_
        refine WK.seq ?_
        refine WK.region ?_
        refine WL.mvI rfl rfl ?_
        refine WL.neq rfl rfl rfl ?_
        refine WL.nil ?_
        -- cond
        refine WK.cond rfl (fun e4 => ?_) (fun e4 => ?_)
        · have e5 : ¬ chkOne (c.props[i]).1 (c.props[i]).2.length = 0 := by rw [← hcl]; simpa using e4
          have e6 : chkPs (chkC d) c.props = chkOne (c.props[i]).1 cs.length := by rw [hch, hdrop, chkPs_one e5, hcl]
          refine WK.seq ?_
          refine WK.region ?_
          refine WL.mvI rfl rfl ?_
          refine WL.asC rfl ?_
          refine WL.asI rfl rfl ?_
          refine WL.nil ?_
          refine WK.ret ?_
          refine WK.ret_code ?_
          refine WK.ret_blk ?_
          refine WK.ret_code ?_
          refine WK.ret_lp ?_
          refine WK.ret_blk ?_
          refine WK.ret_code ?_
          -- end
          refine WK.drop (.drop .refl) ?_
          refine WK.end2 rfl (show _ = .slice _ _ _ from rfl) (show _ = .int _ _ from rfl) ?_
          exact ⟨rfl, _, _, _, _, by rw [e6], rfl, fun h => absurd (e6.symm.trans h) (by rw [hcl]; exact e5)⟩
        · skip
          have e5 : chkOne (c.props[i]).1 (c.props[i]).2.length = 0 := by rw [← hcl]; simpa using e4
          obtain ⟨q1, q2, q3, q4⟩ := chkOne_ok e5
          obtain ⟨q5, q6, q7, q8, q9⟩ := chkProp_ok q1
          have hrl := rawV_len (c.props[i]).1
          have hrp := rawPs_len (c.props[i]).1
          have hrm : ∀ p ∈ rawPs (c.props[i]).1, p.1.length ≤ 1000000 ∧ p.2.length ≤ 1000000 := fun p hp => by
            rcases rawPs_mem hp with h | h
            · have := q8 p h; omega
            · omega
          have hll := lineOf_len (c.props[i]).1
          have hfl := (foldP_len (c.props[i]).1).1
          refine WK.skip ?_
          refine WK.seq ?_
          refine WK.region ?_
          refine WL.loadAO rfl rfl (by first | exact .here | exact .there .here | exact .there (.there .here) | exact .there (.there (.there .here)) | exact .there (.there (.there (.there .here))) | exact .there (.there (.there (.there (.there .here))))) (by rfl) ?_
          refine WL.call (raw_tr hT hsp q2 q3 a2 cs.length k2) rfl rfl rfl .none ?_
          rintro u m1 back hle ⟨hm1, bkr, xr, spr, hbk, hu, hOr⟩; subst m1; subst hbk; subst hu
          refine WL.callm (pprint_pm (hOr.sl fun p hp => .inr (At.mem .here p hp)) (c.props[i]).1.g (c.props[i]).1.n (rawV (c.props[i]).1) none 0 0 (by omega) (by omega) (by omega) hrm (rawV_asc _) (by omega)) rfl rfl rfl ?_
          refine WL.mvT rfl rfl ?_
          refine WL.extract rfl rfl rfl ?_
          refine WL.extract rfl rfl rfl ?_
          refine WL.asS rfl rfl ?_
          refine WL.asI rfl rfl ?_
          refine WL.nil ?_
          refine WK.seq ?_
          refine WK.region ?_
          refine WL.mvL rfl rfl ?_
          refine WL.mvS rfl rfl ?_
          refine WL.call (fold_tr _ (lineOf (c.props[i]).1) (by omega)) rfl rfl rfl .none ?_
          rintro u m1 back hle ⟨hm1, bkf, hbk, hOf⟩; subst m1; subst hbk; obtain ⟨af, cf, hvf, _⟩ := hOf.shape; rw [List.length_map] at hvf; subst hvf
          refine WL.append rfl rfl hO (by first | exact .here | exact .there .here | exact .there (.there .here) | exact .there (.there (.there .here)) | exact .there (.there (.there (.there .here))) | exact .there (.there (.there (.there (.there .here))))) rfl (hOf.sl fun p hp => .inr (At.mem .here p hp)) rfl rfl (by simp only [List.length_map, List.length_append, List.length_cons, List.length_nil]; unfold foldP at hfl; omega) _ (fun _ => (by first | exact .here | exact .there .here | exact .there (.there .here) | exact .there (.there (.there .here)) | exact .there (.there (.there (.there .here))) | exact .there (.there (.there (.there (.there .here)))))) fun v42 blk42 hO42 => ?_
          obtain ⟨a42, c42, hv42, hc42⟩ := hO42.shape; subst hv42
          refine WL.asL rfl rfl ?_
          refine WL.nil ?_
          refine WK.seq ?_
          refine WK.region ?_
          refine WL.fieldO rfl rfl ?_
          refine WL.load1O rfl rfl (by first | exact .here | exact .there .here | exact .there (.there .here) | exact .there (.there (.there .here)) | exact .there (.there (.there (.there .here))) | exact .there (.there (.there (.there (.there .here))))) (show _ = some (.slice _ _ _) from rfl) ?_
          refine WL.lenSl rfl rfl ?_
          refine WL.mvC rfl ?_
          refine WL.nil ?_
          refine WK.block ?_
          -- loop
          refine WK.drop (own' := [blk42]) (.drop (.drop (.drop (.drop (.keep .nil))))) ?_
          refine WK.loop (G := Nat × List (List UInt8) × Value × Bun) (fun g => [(46, .int .i64 (g.1 : Nat)), (0, g.2.2.1), (45, .int .i64 (cs.length : Nat)), (44, .slice a2 cs.length k2), (24, .int .i64 (i : Nat)), (23, .int .i64 (vs.length : Nat)), (22, .slice a vs.length k)]) (fun _ => m) (fun g => [g.2.2.2])
            (fun g => g.1 ≤ cs.length ∧ g.2.1 = ((c.props[i]).2.take g.1).flatMap (cardL d) ∧ (∀ a ∈ (c.props[i]).2.take g.1, chkC d a = 0) ∧ OSl g.2.2.2 1 9 g.2.2.1 ((L ++ [beginL, versionL] ++ X ++ foldP (c.props[i]).1 ++ g.2.1).map str)) (fun g => cs.length - g.1) (0, [], _, _)
            ⟨by simp, rfl, by simp, hO42.xs (by rw [List.append_nil]; exact (List.map_append (f := str)).symm)⟩ ⟨rfl, rfl, rfl, rfl, rfl, rfl, rfl, trivial⟩ rfl rfl ?_
          rintro ⟨j, Y, v1, bk1⟩ ρ ⟨hj, hY, hYc, hO1⟩
          replace hj : j ≤ cs.length := hj
          replace hY : Y = ((c.props[i]).2.take j).flatMap (cardL d) := hY
          replace hYc : ∀ a ∈ (c.props[i]).2.take j, chkC d a = 0 := hYc
          replace hO1 : OSl bk1 1 9 v1 ((L ++ [beginL, versionL] ++ X ++ foldP (c.props[i]).1 ++ Y).map str) := hO1
          obtain ⟨a5, c5, hv5, _⟩ := hO1.shape
          rw [List.length_map] at hv5
          subst hv5
          refine WK.seq ?_
          refine WK.region ?_
          refine WL.lss rfl rfl rfl ?_
          refine WL.nil ?_
          refine WK.seq ?_
          -- cond
          refine WK.cond rfl (fun h3 => ?_) (fun h3 => ?_)
          · have hjt : j < cs.length := by simpa using h3
            have hjt2 : j < (c.props[i]).2.length := by omega
            obtain rfl : j = 0 := by omega
            have hY0 : Y = [] := hY
            have hcv : cs[0]? = some cs[0] := by simp [hjt]
            have hrep := hce 0 cs[0] (c.props[i]).2[0] hcv (by simp [hjt2])
            obtain ⟨a3, l3, k3, hsh⟩ := hrep.slice
            rw [hsh] at hcv hrep
            obtain ⟨b, hag, hb0⟩ : ∃ b, (c.props[i]).2 = [b] ∧ (c.props[i]).2[0] = b := by
              generalize (c.props[i]).2 = z at *
              match z, hjt2, q4 with
              | [b], _, _ => exact ⟨b, rfl, rfl⟩
              | b :: b' :: r, _, q4 => simp at q4
            rw [hb0] at hrep
            have hdb : Deepest d b := hdeep b (by rw [hag]; simp)
            refine WK.skip ?_
            refine WK.seq ?_
            refine WK.block ?_
            refine WK.seq ?_
            refine WK.region ?_
            refine WL.indexE rfl rfl hsa rfl rfl hcv fun p48 hp48 => ?_
            refine WL.loadA rfl rfl (hp48.rd (Le.refl _)) rfl ?_
            refine WL.alloc rfl fun b12 => ?_
            refine WL.storeAO rfl rfl rfl (by first | exact .here | exact .there .here | exact .there (.there .here) | exact .there (.there (.there .here)) | exact .there (.there (.there (.there .here))) | exact .there (.there (.there (.there (.there .here))))) (by rfl) (by rfl) (hsa.one hcv).2 ?_
            refine WL.nil ?_
            refine WK.seq ?_
            refine WK.region ?_
            refine WL.asC rfl ?_
            refine WL.nil ?_
            refine WK.seq ?_
            refine WK.region ?_
            refine WL.mvL rfl rfl ?_
            refine WL.loadAO rfl rfl (by first | exact .here | exact .there .here | exact .there (.there .here) | exact .there (.there (.there .here)) | exact .there (.there (.there (.there .here))) | exact .there (.there (.there (.there (.there .here))))) (by rfl) ?_
            refine WL.call (IH hrep hdb hO1 (by rw [hY0]; simp only [List.length_append, List.length_cons, List.length_nil]; omega)) rfl rfl rfl (.there (.here .none)) ?_
            rintro u m2 back hle ⟨hm2, a6, l6, k6, bk6, hu, hbk, hO6⟩; subst m2; subst hu; subst hbk
            refine WL.mvT rfl rfl ?_
            refine WL.extract rfl rfl rfl ?_
            refine WL.extract rfl rfl rfl ?_
            refine WL.asL rfl rfl ?_
            refine WL.asI rfl rfl ?_
            refine WL.nil ?_
            refine WK.seq ?_
            refine WK.region ?_
            refine WL.mvI rfl rfl ?_
            refine WL.neq rfl rfl rfl ?_
            refine WL.nil ?_
            -- cond
            refine WK.cond rfl (fun h7 => ?_) (fun h7 => ?_)
            · have h8 : ¬ chkC d b = 0 := by simpa using h7
              have e6 : chkPs (chkC d) c.props = chkC d b := by rw [hch, hdrop, chkPs_ag e5 hag h8]
              refine WK.seq ?_
              refine WK.region ?_
              refine WL.mvI rfl rfl ?_
              refine WL.asC rfl ?_
              refine WL.asI rfl rfl ?_
              refine WL.nil ?_
              refine WK.ret ?_
              refine WK.ret_blk ?_
              refine WK.ret_code ?_
              refine WK.ret_lp ?_
              refine WK.ret_blk ?_
              refine WK.ret_blk ?_
              refine WK.ret_code ?_
              refine WK.ret_lp ?_
              refine WK.ret_blk ?_
              refine WK.ret_code ?_
              -- end
              refine WK.drop (own' := [bk6]) (.keep (.drop .nil)) ?_
              refine WK.end2 rfl (show _ = .slice _ _ _ from rfl) (show _ = .int _ _ from rfl) ?_
              exact ⟨rfl, _, _, _, _, by rw [e6], rfl, fun h => absurd (e6.symm.trans h) h8⟩
            · skip
              have h8 : chkC d b = 0 := by simpa using h7
              refine WK.skip ?_
              refine WK.blk ?_
              refine WK.region ?_
              refine WL.add rfl rfl rfl (by omega) ?_
              refine WL.mvI rfl rfl ?_
              refine WL.nil ?_
              -- again
              refine WK.drop (own' := [bk6]) (.keep (.drop .nil)) ?_
              refine WK.again (1, cardL d b, _, bk6) ⟨by show 1 ≤ _; omega, ?_, ?_, ?_⟩ (by show cs.length - 1 < cs.length - 0; omega) ⟨rfl, rfl, rfl, rfl, rfl, rfl, rfl, trivial⟩ rfl rfl
              · show cardL d _ = ((c.props[i]).2.take 1).flatMap (cardL d)
                rw [hag]; simp
              · intro b' hb
                replace hb : b' ∈ (c.props[i]).2.take 1 := hb
                rw [hag] at hb
                obtain rfl := List.mem_singleton.1 hb
                exact h8
              · show OSl bk6 1 _ _ ((L ++ [beginL, versionL] ++ X ++ foldP (c.props[i]).1 ++ cardL d _).map str)
                have := hO6 h8
                rw [hY0, List.append_nil] at this
                exact this
          · skip
            have hjk : j = cs.length := by simp at h3; omega
            have hall : (c.props[i]).2.take j = (c.props[i]).2 := by rw [List.take_of_length_le]; omega
            rw [hall] at hY hYc
            have hpl := partL_count (d := d) q4 hYc
            refine WK.exit ?_
            refine WK.exit_code ?_
            refine WK.exit_lp ?_
            refine WK.exit_hit ?_
            refine WK.blk ?_
            refine WK.region ?_
            refine WL.add rfl rfl rfl (by omega) ?_
            refine WL.mvI rfl rfl ?_
            refine WL.nil ?_
            -- again
            refine WK.again (i + 1, X ++ partL d c.props[i], _, bk1) ⟨by show i + 1 ≤ _; omega, ?_, ?_, ?_, ?_⟩ (by show vs.length - (i + 1) < vs.length - i; omega) ⟨rfl, rfl, rfl, rfl, trivial⟩ rfl rfl
            · show _ = (c.props.take (i + 1)).flatMap (partL d)
              rw [List.take_succ_eq_append_getElem hlt2, List.flatMap_append, ← hX]; simp
            · show (X ++ partL d c.props[i]).length ≤ (i + 1) * (10000 + capN d)
              rw [List.length_append, Nat.add_mul, Nat.one_mul]; omega
            · show _ = chkPs (chkC d) (c.props.drop (i + 1))
              rw [hch, hdrop, chkPs_go e5 hYc]
            · show OSl bk1 1 _ _ ((L ++ [beginL, versionL] ++ (X ++ partL d c.props[i])).map str)
              have e7 : L ++ [beginL, versionL] ++ (X ++ partL d c.props[i]) = L ++ [beginL, versionL] ++ X ++ foldP (c.props[i]).1 ++ Y := by
                rw [partL, hY]; simp only [List.append_assoc]
              rw [e7]
              exact hO1
      · skip
        have hk2 : i = vs.length := by simp at h; omega
        have hX2 : X = c.props.flatMap (partL d) := by rw [hX, hk2, hlen, List.take_length]
        have e6 : chkPs (chkC d) c.props = 0 := by rw [hch, hk2, hlen, List.drop_length]; rfl
        refine WK.exit ?_
        refine WK.exit_code ?_
        refine WK.exit_lp ?_
        refine WK.exit_hit ?_
        refine WK.seq ?_
        refine WK.region ?_
        refine WL.mvL rfl rfl ?_
        refine WL.buildSlice rfl [(str _)] rfl rfl ⟨Fit.one rfl, trivial⟩ rfl fun b62 blk62 v62 hb62 hO62 => ?_
        obtain ⟨a62, c62, hv62, hc62⟩ := hO62.shape; subst hv62
        refine WL.append rfl rfl hO (by first | exact .here | exact .there .here | exact .there (.there .here) | exact .there (.there (.there .here)) | exact .there (.there (.there (.there .here))) | exact .there (.there (.there (.there (.there .here))))) rfl (hO62.sl fun p hp => .inr (At.mem (by first | exact .here | exact .there .here | exact .there (.there .here) | exact .there (.there (.there .here)) | exact .there (.there (.there (.there .here))) | exact .there (.there (.there (.there (.there .here))))) p hp)) rfl rfl (by simp only [List.length_map, List.length_append, List.length_cons, List.length_nil]; omega) _ (fun _ => (by first | exact .here | exact .there .here | exact .there (.there .here) | exact .there (.there (.there .here)) | exact .there (.there (.there (.there .here))) | exact .there (.there (.there (.there (.there .here)))))) fun v63 blk63 hO63 => ?_
        obtain ⟨a63, c63, hv63, hc63⟩ := hO63.shape; subst hv63
        refine WL.drop (.drop .refl) ?_
        refine WL.asL rfl rfl ?_
        refine WL.asC rfl ?_
        refine WL.nil ?_
        refine WK.ret ?_
        -- end
        refine WK.end2 rfl (show _ = .slice _ _ _ from rfl) (show _ = .int _ _ from rfl) ?_
        refine ⟨rfl, _, _, _, _, by rw [e6], rfl, fun _ => ?_⟩
        have e7 : L ++ cardL (d + 1) c = L ++ [beginL, versionL] ++ X ++ [endL] := by rw [cardL_eq, hX2]; simp only [List.append_assoc]
        rw [e7]
        exact hO63.xs (by simp only [List.map_append]; rfl)
end Go.SL
