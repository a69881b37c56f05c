/- The reference's lines of a card: contract. -/
import Derived.Test.YtbigjpjmdkgjmaaDoorApl
namespace Go.SL
open Go Go.Proofs
set_option linter.unusedVariables false
set_option linter.unusedSimpArgs false

set_option maxRecDepth 100000 in
theorem rlinesC_tr : ∀ (d : Nat) {m : Imm} {v : Value} {c : Crd}, RepC (fun b o => m b = some o) d v c → Deepest d c → chkC d c = 0 → capN d ≤ 1000000000 →
    Tr Tryd.prog 15 [v] m [] fun u m' own' => m' = m ∧ ∃ a l k blk', u = .slice a l k ∧ own' = [blk'] ∧ OSl blk' 1 9 (.slice a l k) ((cardL d c).map str)
  | 0, _, _, _, _, hd, _, _ => hd.elim
  | d + 1, m, v, c, hc, hdp, hchk, hcap => by
    obtain ⟨pv, vs, rfl, hs, hlen, hbig, hel⟩ := hc
    obtain ⟨a, k, hpv, _⟩ := hs.shape
    subst hpv
    have hcap2 : capN (d + 1) = 24 * (10000 + capN d) + 100 := rfl
    rw [hcap2] at hcap
    obtain ⟨hn24, hok⟩ := chkC_ok hchk
    refine Tr.of Tryd.func15 Tryd.ntmps15 rfl rfl fun w => ?_
    refine WK.seq ?_
    refine WK.region ?_
    refine WL.box rfl rfl fun b1 => ?_
    refine WL.asC rfl ?_
    refine WL.nil ?_
    refine WK.seq ?_
    refine WK.region ?_
    refine WL.buildSlice rfl [(str _), (str _)] rfl rfl ⟨Fit.one rfl, Fit.one rfl, trivial⟩ rfl fun b12 blk12 v12 hb12 hO12 => ?_
    obtain ⟨a12, c12, hv12, hc12⟩ := hO12.shape; subst hv12
    refine WL.asL rfl rfl ?_
    refine WL.nil ?_
    refine WK.seq ?_
    refine WK.seq ?_
    refine WK.region ?_
    refine WL.asC rfl ?_
    refine WL.nil ?_
    refine WK.block ?_
    -- loop
    have IH : ∀ {v : Value} {c : Crd}, RepC (fun b o => m b = some o) d v c → Deepest d c → chkC d c = 0 → capN d ≤ 1000000000 → _ := fun h1 h2 h3 h4 => rlinesC_tr d h1 h2 h3 h4
    refine WK.loop (G := Nat × List (List UInt8) × Value × Bun) (fun g => [(4, .int .i64 (g.1 : Nat)), (3, g.2.2.1), (1, .pointer (some ⟨b1, 0, none⟩))]) (fun _ => m) (fun g => [g.2.2.2, [(b1, .cells #[.slice a vs.length k] 24 (0, 0))]])
      (fun g => g.1 ≤ vs.length ∧ g.2.1 = (c.props.take g.1).flatMap (partL d) ∧ g.2.1.length ≤ g.1 * (10000 + capN d) ∧ OSl g.2.2.2 1 9 g.2.2.1 (([beginL, versionL] ++ g.2.1).map str)) (fun g => vs.length - g.1) (0, [], _, _)
      ⟨by simp, rfl, by simp, hO12⟩ ⟨rfl, rfl, rfl, trivial⟩ rfl rfl ?_
    rintro ⟨i, X, v0, bk⟩ ρ ⟨hi, hX, hXl, hO⟩
    replace hi : i ≤ vs.length := hi
    replace hX : X = (c.props.take i).flatMap (partL d) := hX
    replace hXl : X.length ≤ i * (10000 + capN d) := hXl
    replace hO : OSl bk 1 9 v0 (([beginL, versionL] ++ X).map str) := hO
    have hXl2 : i * (10000 + capN d) ≤ 24 * (10000 + capN d) := Nat.mul_le_mul_right _ (by omega)
    obtain ⟨a1, c1, hv1, _⟩ := hO.shape
    rw [List.length_map] at hv1
    subst hv1
    refine WK.seq ?_
    refine WK.seq ?_
    refine WK.region ?_
    refine WL.mvI rfl rfl ?_
    refine WL.fieldO rfl rfl ?_
    refine WL.load1O rfl rfl (by first | exact .here | exact .there .here | exact .there (.there .here) | exact .there (.there (.there .here)) | exact .there (.there (.there (.there .here))) | exact .there (.there (.there (.there (.there .here))))) (show _ = some (.slice _ _ _) from rfl) ?_
    refine WL.lenSl rfl rfl ?_
    refine WL.lss rfl rfl rfl ?_
    refine WL.nil ?_
    -- cond
    refine WK.cond rfl (fun h => ?_) (fun h => ?_)
    · have hlt : i < vs.length := by simpa using h
      have hlt2 : i < c.props.length := by omega
      have hXl3 : (i + 1) * (10000 + capN d) ≤ 24 * (10000 + capN d) := Nat.mul_le_mul_right _ (by omega)
      rw [Nat.add_mul, Nat.one_mul] at hXl3
      have hv : vs[i]? = some vs[i] := by simp [hlt]
      obtain ⟨h0, sp, sa, cs, hx, hsp, hsa, hcl, hcb, hce⟩ := hel i vs[i] c.props[i] hv (by simp [hlt2])
      have hdeep : ∀ a ∈ (c.props[i]).2, Deepest d a := hdp _ (List.getElem_mem hlt2)
      obtain ⟨e5, q4, hagc⟩ := hok _ (List.getElem_mem hlt2)
      obtain ⟨a2, k2, hsav, _⟩ := hsa.shape
      subst hsav
      obtain ⟨a4, k4, hspv, _⟩ := hsp.shape
      rw [List.length_map] at hspv
      subst hspv
      rw [hx] at hv
      have hfit := hs.one hv
      obtain ⟨q1, q2, q3, _⟩ := chkOne_ok e5
      obtain ⟨q5, q6, q7, q8, q9⟩ := chkProp_ok q1
      have hrl := rawV_len (c.props[i]).1
      have hrp := rawPs_len (c.props[i]).1
      have hrm : ∀ p ∈ rawPs (c.props[i]).1, p.1.length ≤ 1000000 ∧ p.2.length ≤ 1000000 := fun p hp => by
        rcases rawPs_mem hp with h | h
        · have := q8 p h; omega
        · omega
      have hll := lineOf_len (c.props[i]).1
      refine WK.skip ?_
      refine WK.seq ?_
      refine WK.block ?_
      refine WK.seq ?_
      refine WK.region ?_
      refine WL.fieldO rfl rfl ?_
      refine WL.load1O rfl rfl (by first | exact .here | exact .there .here | exact .there (.there .here) | exact .there (.there (.there .here)) | exact .there (.there (.there (.there .here))) | exact .there (.there (.there (.there (.there .here))))) (show _ = some (.slice _ _ _) from rfl) ?_
      refine WL.mvI rfl rfl ?_
      refine WL.indexE rfl rfl hs rfl rfl hv fun p23 hp23 => ?_
      refine WL.loadA rfl rfl (hp23.rd (Le.refl _)) rfl ?_
      refine WL.alloc rfl fun b5 => ?_
      refine WL.storeAO rfl rfl rfl (by first | exact .here | exact .there .here | exact .there (.there .here) | exact .there (.there (.there .here)) | exact .there (.there (.there (.there .here))) | exact .there (.there (.there (.there (.there .here))))) (by rfl) (by rfl) hfit.2 ?_
      refine WL.nil ?_
      refine WK.seq ?_
      refine WK.region ?_
      refine WL.fieldO rfl rfl ?_
      refine WL.load1O rfl rfl (by first | exact .here | exact .there .here | exact .there (.there .here) | exact .there (.there (.there .here)) | exact .there (.there (.there (.there .here))) | exact .there (.there (.there (.there (.there .here))))) (show _ = some (.slice _ _ _) from rfl) ?_
      refine WL.asL rfl rfl ?_
      refine WL.nil ?_
      refine WK.seq ?_
      refine WK.region ?_
      refine WL.fieldO rfl rfl ?_
      refine WL.store1O rfl (show _ = (.slice _ _ _) from rfl) rfl (by first | exact .here | exact .there .here | exact .there (.there .here) | exact .there (.there (.there .here)) | exact .there (.there (.there (.there .here))) | exact .there (.there (.there (.there (.there .here))))) rfl ?_
      refine WL.nil ?_
      refine WK.seq ?_
      refine WK.region ?_
      refine WL.buildSlice rfl [] rfl rfl trivial rfl fun b28 blk28 v28 hb28 hO28 => ?_
      obtain ⟨a28, c28, hv28, hc28⟩ := hO28.shape; subst hv28
      refine WL.fieldO rfl rfl ?_
      refine WL.load1O rfl rfl (by first | exact .here | exact .there .here | exact .there (.there .here) | exact .there (.there (.there .here)) | exact .there (.there (.there (.there .here))) | exact .there (.there (.there (.there (.there .here))))) (show _ = some (.slice _ _ _) from rfl) ?_
      refine WL.append rfl rfl hO28 (by first | exact .here | exact .there .here | exact .there (.there .here) | exact .there (.there (.there .here)) | exact .there (.there (.there (.there .here))) | exact .there (.there (.there (.there (.there .here))))) rfl (hsp.rd (Le.refl _)) rfl rfl (by simp; omega) _ (fun _ => (by first | exact .here | exact .there .here | exact .there (.there .here) | exact .there (.there (.there .here)) | exact .there (.there (.there (.there .here))) | exact .there (.there (.there (.there (.there .here)))))) fun v31 blk31 hO31 => ?_
      obtain ⟨a31, c31, hv31, hc31⟩ := hO31.shape; subst hv31
      refine WL.fieldO rfl rfl ?_
      refine WL.store1O rfl (show _ = (.slice _ _ _) from rfl) rfl (by first | exact .here | exact .there .here | exact .there (.there .here) | exact .there (.there (.there .here)) | exact .there (.there (.there (.there .here))) | exact .there (.there (.there (.there (.there .here))))) rfl ?_
      refine WL.nil ?_
      refine WK.seq ?_
      refine WK.mid (G := Value × Bun) (fun g => [(5, .pointer (some ⟨b5, 0, none⟩)), (6, .slice a2 cs.length k2), (3, .slice a1 ([beginL, versionL] ++ X).length c1), (4, .int .i64 (i : Nat)), (1, .pointer (some ⟨b1, 0, none⟩))]) (fun _ => m)
        (fun g => [g.2, [(b5, .cells #[str (c.props[i]).1.g, str (c.props[i]).1.n, g.1, str (rawV (c.props[i]).1), .slice none 0 0] 42 (0, 0))], bk, [(b1, .cells #[.slice a vs.length k] 24 (0, 0))]])
        (fun g => OSl g.2 2 58 g.1 ((rawPs (c.props[i]).1).map parV)) ?_ ?_
      · skip
        refine WK.block ?_
        refine WK.seq ?_
        refine WK.region ?_
        refine WL.fieldO rfl rfl ?_
        refine WL.load1O rfl rfl (by first | exact .here | exact .there .here | exact .there (.there .here) | exact .there (.there (.there .here)) | exact .there (.there (.there (.there .here))) | exact .there (.there (.there (.there (.there .here))))) (show _ = some (str _) from rfl) ?_
        refine WL.callp (rplain10_pu _ (by omega)) rfl rfl rfl ?_
        refine WL.asB rfl rfl ?_
        refine WL.nil ?_
        -- cond
        refine WK.cond rfl (fun e1 => ?_) (fun e1 => ?_)
        · have hr1 : rawPs (c.props[i]).1 = (c.props[i]).1.ps := by rw [rawPs, if_pos e1]
          have hr2 : rawV (c.props[i]).1 = (c.props[i]).1.v := by rw [rawV, if_pos e1]
          refine WK.skip ?_
          refine WK.blk ?_
          -- again
          rw [hr1, hr2]
          exact WK.met (_, _) hO31 ⟨rfl, rfl, rfl, rfl, rfl, trivial⟩ rfl rfl
        · skip
          refine WK.seq ?_
          refine WK.region ?_
          refine WL.fieldO rfl rfl ?_
          refine WL.load1O rfl rfl (by first | exact .here | exact .there .here | exact .there (.there .here) | exact .there (.there (.there .here)) | exact .there (.there (.there (.there .here))) | exact .there (.there (.there (.there (.there .here))))) (show _ = some (str _) from rfl) ?_
          refine WL.callp (rvalid_pu _ (by omega)) rfl rfl rfl ?_
          refine WL.asB rfl rfl ?_
          refine WL.nil ?_
          -- cond
          refine WK.cond rfl (fun e2 => ?_) (fun e2 => ?_)
          · have hr1 : rawPs (c.props[i]).1 = (c.props[i]).1.ps ++ [csP, qpP] := by rw [rawPs, if_neg (by rw [e1]; decide), if_pos e2]
            have hr2 : rawV (c.props[i]).1 = qEnc (c.props[i]).1.v := by rw [rawV, if_neg (by rw [e1]; decide), if_pos e2]
            refine WK.seq ?_
            refine WK.region ?_
            refine WL.fieldO rfl rfl ?_
            refine WL.load1O rfl rfl (by first | exact .here | exact .there .here | exact .there (.there .here) | exact .there (.there (.there .here)) | exact .there (.there (.there (.there .here))) | exact .there (.there (.there (.there (.there .here))))) (show _ = some (.slice _ _ _) from rfl) ?_
            refine WL.build (cs := #[(str _), (str _)]) rfl rfl ?_
            refine WL.build (cs := #[(str _), (str _)]) rfl rfl ?_
            refine WL.buildSlice rfl [(.agg #[(str _), (str _)]), (.agg #[(str _), (str _)])] rfl rfl ⟨⟨rfl, by simp [Value.cells, str, Value.oneCell']⟩, ⟨rfl, by simp [Value.cells, str, Value.oneCell']⟩, trivial⟩ rfl fun b71 blk71 v71 hb71 hO71 => ?_
            obtain ⟨a71, c71, hv71, hc71⟩ := hO71.shape; subst hv71
            refine WL.append rfl rfl hO31 (by first | exact .here | exact .there .here | exact .there (.there .here) | exact .there (.there (.there .here)) | exact .there (.there (.there (.there .here))) | exact .there (.there (.there (.there (.there .here))))) rfl (hO71.sl fun p hp => .inr (At.mem (by first | exact .here | exact .there .here | exact .there (.there .here) | exact .there (.there (.there .here)) | exact .there (.there (.there (.there .here))) | exact .there (.there (.there (.there (.there .here))))) p hp)) rfl rfl (by simp; omega) _ (fun _ => (by first | exact .here | exact .there .here | exact .there (.there .here) | exact .there (.there (.there .here)) | exact .there (.there (.there (.there .here))) | exact .there (.there (.there (.there (.there .here)))))) fun v72 blk72 hO72 => ?_
            obtain ⟨a72, c72, hv72, hc72⟩ := hO72.shape; subst hv72
            refine WL.drop (.drop .refl) ?_
            refine WL.fieldO rfl rfl ?_
            refine WL.store1O rfl (show _ = (.slice _ _ _) from rfl) rfl (by first | exact .here | exact .there .here | exact .there (.there .here) | exact .there (.there (.there .here)) | exact .there (.there (.there (.there .here))) | exact .there (.there (.there (.there (.there .here))))) rfl ?_
            refine WL.nil ?_
            refine WK.region ?_
            refine WL.fieldO rfl rfl ?_
            refine WL.load1O rfl rfl (by first | exact .here | exact .there .here | exact .there (.there .here) | exact .there (.there (.there .here)) | exact .there (.there (.there (.there .here))) | exact .there (.there (.there (.there (.there .here))))) (show _ = some (str _) from rfl) ?_
            refine WL.callp (rqenc_pu _ (by omega)) rfl rfl rfl ?_
            refine WL.fieldO rfl rfl ?_
            refine WL.store1O rfl (show _ = (str _) from rfl) rfl (by first | exact .here | exact .there .here | exact .there (.there .here) | exact .there (.there (.there .here)) | exact .there (.there (.there (.there .here))) | exact .there (.there (.there (.there (.there .here))))) rfl ?_
            refine WL.nil ?_
            refine WK.blk ?_
            -- again
            rw [hr1, hr2]
            exact WK.met (_, _) (hO72.xs (by simp only [List.map_append]; rfl)) ⟨rfl, rfl, rfl, rfl, rfl, trivial⟩ rfl rfl
          · skip
            have hr1 : rawPs (c.props[i]).1 = (c.props[i]).1.ps ++ [b6P] := by rw [rawPs, if_neg (by rw [e1]; decide), if_neg (by rw [e2]; decide)]
            have hr2 : rawV (c.props[i]).1 = b64 (c.props[i]).1.v := by rw [rawV, if_neg (by rw [e1]; decide), if_neg (by rw [e2]; decide)]
            have hel := encTo_len (c.props[i]).1.v (((c.props[i]).1.v.length + 2) / 3)
            have hwl := wrapL_len (encTo (c.props[i]).1.v (((c.props[i]).1.v.length + 2) / 3))
            have hb64 : b64 (c.props[i]).1.v = wrapL (encTo (c.props[i]).1.v (((c.props[i]).1.v.length + 2) / 3)) := rfl
            refine WK.seq ?_
            refine WK.region ?_
            refine WL.fieldO rfl rfl ?_
            refine WL.load1O rfl rfl (by first | exact .here | exact .there .here | exact .there (.there .here) | exact .there (.there (.there .here)) | exact .there (.there (.there (.there .here))) | exact .there (.there (.there (.there (.there .here))))) (show _ = some (.slice _ _ _) from rfl) ?_
            refine WL.build (cs := #[(str _), (str _)]) rfl rfl ?_
            refine WL.buildSlice rfl [(.agg #[(str _), (str _)])] rfl rfl ⟨⟨rfl, by simp [Value.cells, str, Value.oneCell']⟩, trivial⟩ rfl fun b36 blk36 v36 hb36 hO36 => ?_
            obtain ⟨a36, c36, hv36, hc36⟩ := hO36.shape; subst hv36
            refine WL.append rfl rfl hO31 (by first | exact .here | exact .there .here | exact .there (.there .here) | exact .there (.there (.there .here)) | exact .there (.there (.there (.there .here))) | exact .there (.there (.there (.there (.there .here))))) rfl (hO36.sl fun p hp => .inr (At.mem (by first | exact .here | exact .there .here | exact .there (.there .here) | exact .there (.there (.there .here)) | exact .there (.there (.there (.there .here))) | exact .there (.there (.there (.there (.there .here))))) p hp)) rfl rfl (by simp; omega) _ (fun _ => (by first | exact .here | exact .there .here | exact .there (.there .here) | exact .there (.there (.there .here)) | exact .there (.there (.there (.there .here))) | exact .there (.there (.there (.there (.there .here)))))) fun v37 blk37 hO37 => ?_
            obtain ⟨a37, c37, hv37, hc37⟩ := hO37.shape; subst hv37
            refine WL.drop (.drop .refl) ?_
            refine WL.fieldO rfl rfl ?_
            refine WL.store1O rfl (show _ = (.slice _ _ _) from rfl) rfl (by first | exact .here | exact .there .here | exact .there (.there .here) | exact .there (.there (.there .here)) | exact .there (.there (.there (.there .here))) | exact .there (.there (.there (.there (.there .here))))) rfl ?_
            refine WL.nil ?_
            refine WK.seq ?_
            refine WK.region ?_
            refine WL.fieldO rfl rfl ?_
            refine WL.load1O rfl rfl (by first | exact .here | exact .there .here | exact .there (.there .here) | exact .there (.there (.there .here)) | exact .there (.there (.there (.there .here))) | exact .there (.there (.there (.there (.there .here))))) (show _ = some (str _) from rfl) ?_
            refine WL.callp (renc_pu _ (by omega)) rfl rfl rfl ?_
            refine WL.call (rlines_tr _ (encTo (c.props[i]).1.v (((c.props[i]).1.v.length + 2) / 3)) (by omega)) rfl rfl rfl .none ?_
            rintro u m1 back hle ⟨hm1, bkx, hbk, hOx⟩; subst m1; subst hbk; obtain ⟨ax, cx, hvx, _⟩ := hOx.shape; rw [List.length_map] at hvx; subst hvx
            refine WL.asL rfl rfl ?_
            refine WL.nil ?_
            refine WK.seq ?_
            refine WK.region ?_
            refine WL.fieldO rfl rfl ?_
            refine WL.store1O rfl (show _ = (str _) from rfl) rfl (by first | exact .here | exact .there .here | exact .there (.there .here) | exact .there (.there (.there .here)) | exact .there (.there (.there (.there .here))) | exact .there (.there (.there (.there (.there .here))))) rfl ?_
            refine WL.nil ?_
            refine WK.seq ?_
            refine WK.region ?_
            refine WL.asC rfl ?_
            refine WL.nil ?_
            refine WK.block ?_
            -- loop
            generalize hes : encTo (c.props[i]).1.v (((c.props[i]).1.v.length + 2) / 3) = es at *
            have hpc := pieces_len es
            generalize hps : pieces 60 es.length es = ps at *
            have hwr : wrapL es = ps.flatMap (32 :: ·) := by rw [wrapL, hps]
            refine WK.loop (G := Nat) (fun g => [(8, .int .i64 (g : Nat)), (7, .slice ax ps.length cx), (5, .pointer (some ⟨b5, 0, none⟩)), (6, .slice a2 cs.length k2), (3, .slice a1 ([beginL, versionL] ++ X).length c1), (4, .int .i64 (i : Nat)), (1, .pointer (some ⟨b1, 0, none⟩))]) (fun _ => m)
              (fun g => [bkx, blk37, [(b5, .cells #[str (c.props[i]).1.g, str (c.props[i]).1.n, .slice a37 (List.map parV (c.props[i]).1.ps ++ [parV b6P]).length c37, str ((ps.take g).flatMap (32 :: ·)), .slice none 0 0] 42 (0, 0))], bk, [(b1, .cells #[.slice a vs.length k] 24 (0, 0))]])
              (fun g => g ≤ ps.length) (fun g => ps.length - g) 0 (Nat.zero_le _) ⟨rfl, rfl, rfl, rfl, rfl, rfl, rfl, trivial⟩ rfl rfl ?_
            rintro q ρ hq
            replace hq : q ≤ ps.length := hq
            refine WK.seq ?_
            refine WK.seq ?_
            refine WK.region ?_
            refine WL.mvI rfl rfl ?_
            refine WL.mvL rfl rfl ?_
            refine WL.lenSl rfl rfl ?_
            refine WL.lss rfl rfl rfl ?_
            refine WL.nil ?_
            -- cond
            refine WK.cond rfl (fun e3 => ?_) (fun e3 => ?_)
            · have hqt : q < ps.length := by simpa using e3
              have hst : (ps.take q).flatMap (32 :: ·) ++ [32] ++ ps[q] = (ps.take (q + 1)).flatMap (32 :: ·) := by rw [List.take_succ_eq_append_getElem hqt, List.flatMap_append]; simp
              have hsum : (ps.take (q + 1)).flatMap (32 :: ·) ++ (ps.drop (q + 1)).flatMap (32 :: ·) = wrapL es := by rw [hwr, ← List.flatMap_append, List.take_append_drop]
              have hsl := congrArg List.length hsum
              rw [← hst] at hsl
              simp only [List.length_append, List.length_cons, List.length_nil] at hsl
              obtain ⟨be, oe, hae, hpe⟩ := (hOx.sl (R := fun b o => (b, o) ∈ bkx) fun p hp => hp).elem (j := q) (xv := str ps[q]) (by simp [hqt])
              subst hae
              have hpe2 : ∀ o, At o bkx → PtE (Rd m o) _ _ := fun o ho => hpe.mono fun b x h => .inr (At.mem ho (b, x) h)
              refine WK.skip ?_
              refine WK.seq ?_
              refine WK.block ?_
              -- draw
              refine WK.drawn 9 #[[], [0], [0, 1], [], [], [3, 4], [3, 4, 5], [0, 1, 2, 3, 4, 5, 6], [0, 1, 2, 3, 4, 5, 6, 7], [0, 1, 2, 3, 4, 5, 6, 7, 8]] mixed_ok (by kernel_rfl) ?_
              refine WR.cons rfl rfl (fun K h => WL.fieldO rfl rfl h) ?_
              refine WR.cons rfl rfl (fun K h => WL.load1O rfl rfl (by first | exact .here | exact .there .here | exact .there (.there .here)) (show _ = some (str _) from rfl) h) ?_
              refine WR.cons rfl rfl (fun K h => WL.addS rfl rfl rfl (by simp only [List.length_cons, List.length_nil]; omega) h) ?_
              refine WR.cons rfl rfl (fun K h => WL.mvL rfl rfl h) ?_
              refine WR.cons rfl rfl (fun K h => WL.mvI rfl rfl h) ?_
              refine WR.cons rfl rfl (fun K h => WL.indexK rfl rfl rfl rfl hqt h) ?_
              refine WR.cons rfl rfl (fun K h => WL.load1 rfl rfl (hpe2 _ .here) h) ?_
              refine WR.cons rfl rfl (fun K h => WL.addS rfl rfl rfl (by simp only [List.length_append, List.length_cons, List.length_nil]; omega) h) ?_
              refine WR.cons rfl rfl (fun K h => WL.fieldO rfl rfl h) ?_
              refine WR.nil ?_
              refine WL.store1O rfl (show _ = (str _) from rfl) rfl (by first | exact .here | exact .there .here | exact .there (.there .here) | exact .there (.there (.there .here)) | exact .there (.there (.there (.there .here))) | exact .there (.there (.there (.there (.there .here))))) rfl ?_
              refine WL.nil ?_
              refine WK.blk ?_
              refine WK.region ?_
              refine WL.mvI rfl rfl ?_
              refine WL.add rfl rfl rfl (by omega) ?_
              refine WL.asI rfl rfl ?_
              refine WL.nil ?_
              -- again
              exact WK.again (q + 1) (by show q + 1 ≤ _; omega) (by show ps.length - (q + 1) < ps.length - q; omega) ⟨rfl, rfl, rfl, rfl, rfl, rfl, rfl, trivial⟩ rfl (by
                show [bkx, blk37, [(b5, .cells #[str (c.props[i]).1.g, str (c.props[i]).1.n, .slice a37 (List.map parV (c.props[i]).1.ps ++ [parV b6P]).length c37, str ((ps.take q).flatMap (32 :: ·) ++ [32] ++ ps[q]), .slice none 0 0] _ (0, 0))], bk, _] = _
                rw [hst])
            · skip
              have hqe : q = ps.length := by simp at e3; omega
              refine WK.exit ?_
              refine WK.exit_code ?_
              refine WK.exit_lp ?_
              refine WK.exit_hit ?_
              refine WK.blk ?_
              -- again
              refine WK.drop (.drop .refl) ?_
              rw [hqe, List.take_length, ← hwr, hr1, hr2, hb64]
              exact WK.met (_, _) (hO37.xs (by simp only [List.map_append]; rfl)) ⟨rfl, rfl, rfl, rfl, rfl, trivial⟩ rfl rfl
      rintro ⟨spv, bkp⟩ ρ hOp
      replace hOp : OSl bkp 2 58 spv ((rawPs (c.props[i]).1).map parV) := hOp
      have hfl := (foldP_len (c.props[i]).1).1
      refine WK.seq ?_
      refine WK.region ?_
      refine WL.loadAO rfl rfl (by first | exact .here | exact .there .here | exact .there (.there .here) | exact .there (.there (.there .here)) | exact .there (.there (.there (.there .here))) | exact .there (.there (.there (.there (.there .here))))) (by rfl) ?_
      refine WL.callm (rprint_pm (hOp.sl fun p hp => .inr (At.mem .here p hp)) (c.props[i]).1.g (c.props[i]).1.n (rawV (c.props[i]).1) none 0 0 (by omega) (by omega) (by omega) (fun p hp => by have := hrm p hp; omega)) rfl rfl rfl ?_
      refine WL.mvT rfl rfl ?_
      refine WL.extract rfl rfl rfl ?_
      refine WL.extract rfl rfl rfl ?_
      refine WL.asS rfl rfl ?_
      refine WL.asI rfl rfl ?_
      refine WL.nil ?_
      refine WK.seq ?_
      refine WK.region ?_
      refine WL.mvL rfl rfl ?_
      refine WL.mvS rfl rfl ?_
      refine WL.call (rfold_tr _ (lineOf (c.props[i]).1) (by omega)) rfl rfl rfl .none ?_
      rintro u m1 back hle ⟨hm1, bkf, hbk, hOf⟩; subst m1; subst hbk; obtain ⟨af, cf, hvf, _⟩ := hOf.shape; rw [List.length_map] at hvf; subst hvf
      refine WL.append rfl rfl hO (by first | exact .here | exact .there .here | exact .there (.there .here) | exact .there (.there (.there .here)) | exact .there (.there (.there (.there .here))) | exact .there (.there (.there (.there (.there .here))))) rfl (hOf.sl fun p hp => .inr (At.mem .here p hp)) rfl rfl (by simp only [List.length_map, List.length_append, List.length_cons, List.length_nil]; unfold foldP at hfl; omega) _ (fun _ => (by first | exact .here | exact .there .here | exact .there (.there .here) | exact .there (.there (.there .here)) | exact .there (.there (.there (.there .here))) | exact .there (.there (.there (.there (.there .here)))))) fun v86 blk86 hO86 => ?_
      obtain ⟨a86, c86, hv86, hc86⟩ := hO86.shape; subst hv86
      refine WL.asL rfl rfl ?_
      refine WL.nil ?_
      refine WK.seq ?_
      refine WK.region ?_
      refine WL.asC rfl ?_
      refine WL.nil ?_
      refine WK.block ?_
      -- loop
      refine WK.drop (own' := [blk86, [(b1, .cells #[.slice a vs.length k] 24 (0, 0))]]) (.drop (.drop (.drop (.keep (.keep .nil))))) ?_
      refine WK.loop (G := Nat × List (List UInt8) × Value × Bun) (fun g => [(11, .int .i64 (g.1 : Nat)), (3, g.2.2.1), (6, .slice a2 cs.length k2), (4, .int .i64 (i : Nat)), (1, .pointer (some ⟨b1, 0, none⟩))]) (fun _ => m) (fun g => [g.2.2.2, [(b1, .cells #[.slice a vs.length k] 24 (0, 0))]])
        (fun g => g.1 ≤ cs.length ∧ g.2.1 = ((c.props[i]).2.take g.1).flatMap (cardL d) ∧ OSl g.2.2.2 1 9 g.2.2.1 (([beginL, versionL] ++ X ++ foldP (c.props[i]).1 ++ g.2.1).map str)) (fun g => cs.length - g.1) (0, [], _, _)
        ⟨by simp, rfl, hO86.xs (by rw [List.append_nil]; exact (List.map_append (f := str)).symm)⟩ ⟨rfl, rfl, rfl, rfl, rfl, trivial⟩ rfl rfl ?_
      rintro ⟨j, Y, v1, bk1⟩ ρ ⟨hj, hY, hO1⟩
      replace hj : j ≤ cs.length := hj
      replace hY : Y = ((c.props[i]).2.take j).flatMap (cardL d) := hY
      replace hO1 : OSl bk1 1 9 v1 (([beginL, versionL] ++ X ++ foldP (c.props[i]).1 ++ Y).map str) := hO1
      obtain ⟨a5, c5, hv5, _⟩ := hO1.shape
      rw [List.length_map] at hv5
      subst hv5
      refine WK.seq ?_
      refine WK.seq ?_
      refine WK.region ?_
      refine WL.mvI rfl rfl ?_
      refine WL.mvL rfl rfl ?_
      refine WL.lenSl rfl rfl ?_
      refine WL.lss rfl rfl rfl ?_
      refine WL.nil ?_
      -- cond
      refine WK.cond rfl (fun h3 => ?_) (fun h3 => ?_)
      · have hjt : j < cs.length := by simpa using h3
        have hjt2 : j < (c.props[i]).2.length := by omega
        obtain rfl : j = 0 := by omega
        have hY0 : Y = [] := hY
        have hcv : cs[0]? = some cs[0] := by simp [hjt]
        have hrep := hce 0 cs[0] (c.props[i]).2[0] hcv (by simp [hjt2])
        obtain ⟨a3, l3, k3, hsh⟩ := hrep.slice
        rw [hsh] at hcv hrep
        obtain ⟨b, hag, hb0⟩ : ∃ b, (c.props[i]).2 = [b] ∧ (c.props[i]).2[0] = b := by
          generalize (c.props[i]).2 = z at *
          match z, hjt2, q4 with
          | [b], _, _ => exact ⟨b, rfl, rfl⟩
          | b :: b' :: r, _, q4 => simp at q4
        rw [hb0] at hrep
        have hdb : Deepest d b := hdeep b (by rw [hag]; simp)
        have hcb2 : chkC d b = 0 := hagc b (by rw [hag]; simp)
        have hcl2 := cardL_count hcb2
        refine WK.skip ?_
        refine WK.seq ?_
        refine WK.block ?_
        refine WK.region ?_
        refine WL.mvL rfl rfl ?_
        refine WL.mvL rfl rfl ?_
        refine WL.mvI rfl rfl ?_
        refine WL.indexE rfl rfl hsa rfl rfl hcv fun p96 hp96 => ?_
        refine WL.loadA rfl rfl (hp96.rd (Le.refl _)) rfl ?_
        refine WL.call (IH hrep hdb hcb2 (by omega)) rfl rfl rfl .none ?_
        rintro u m2 back hle ⟨hm2, a6, l6, k6, bk6, hu, hbk, hO6⟩; subst m2; subst hu; subst hbk
        refine WL.append rfl rfl hO1 (by first | exact .here | exact .there .here | exact .there (.there .here) | exact .there (.there (.there .here)) | exact .there (.there (.there (.there .here))) | exact .there (.there (.there (.there (.there .here))))) rfl (hO6.sl fun p hp => .inr (At.mem .here p hp)) rfl rfl (by rw [hY0]; simp only [List.length_map, List.length_append, List.length_cons, List.length_nil]; omega) _ (fun _ => (by first | exact .here | exact .there .here | exact .there (.there .here) | exact .there (.there (.there .here)) | exact .there (.there (.there (.there .here))) | exact .there (.there (.there (.there (.there .here)))))) fun v99 blk99 hO99 => ?_
        obtain ⟨a99, c99, hv99, hc99⟩ := hO99.shape; subst hv99
        refine WL.asL rfl rfl ?_
        refine WL.nil ?_
        refine WK.blk ?_
        refine WK.region ?_
        refine WL.mvI rfl rfl ?_
        refine WL.add rfl rfl rfl (by omega) ?_
        refine WL.asI rfl rfl ?_
        refine WL.nil ?_
        -- again
        refine WK.drop (.drop .refl) ?_
        refine WK.again (1, cardL d b, _, blk99) ⟨by show 1 ≤ _; omega, ?_, ?_⟩ (by show cs.length - 1 < cs.length - 0; omega) ⟨rfl, rfl, rfl, rfl, rfl, trivial⟩ rfl rfl
        · show cardL d _ = ((c.props[i]).2.take 1).flatMap (cardL d)
          rw [hag]; simp
        · refine hO99.xs ?_
          show _ = (([beginL, versionL] ++ X ++ foldP (c.props[i]).1 ++ cardL d b).map str)
          rw [hY0, List.append_nil]; exact (List.map_append (f := str)).symm
      · skip
        have hjk : j = cs.length := by simp at h3; omega
        have hall : (c.props[i]).2.take j = (c.props[i]).2 := by rw [List.take_of_length_le]; omega
        rw [hall] at hY
        have hpl := partL_count (d := d) q4 hagc
        refine WK.exit ?_
        refine WK.exit_code ?_
        refine WK.exit_lp ?_
        refine WK.exit_hit ?_
        refine WK.blk ?_
        refine WK.region ?_
        refine WL.mvI rfl rfl ?_
        refine WL.add rfl rfl rfl (by omega) ?_
        refine WL.asI rfl rfl ?_
        refine WL.nil ?_
        -- again
        refine WK.again (i + 1, X ++ partL d c.props[i], _, bk1) ⟨by show i + 1 ≤ _; omega, ?_, ?_, ?_⟩ (by show vs.length - (i + 1) < vs.length - i; omega) ⟨rfl, rfl, rfl, trivial⟩ rfl rfl
        · show _ = (c.props.take (i + 1)).flatMap (partL d)
          rw [List.take_succ_eq_append_getElem hlt2, List.flatMap_append, ← hX]; simp
        · show (X ++ partL d c.props[i]).length ≤ (i + 1) * (10000 + capN d)
          rw [List.length_append, Nat.add_mul, Nat.one_mul]; omega
        · show OSl bk1 1 _ _ (([beginL, versionL] ++ (X ++ partL d c.props[i])).map str)
          have e7 : [beginL, versionL] ++ (X ++ partL d c.props[i]) = [beginL, versionL] ++ X ++ foldP (c.props[i]).1 ++ Y := by
            rw [partL, hY]; simp only [List.append_assoc]
          rw [e7]
          exact hO1
    · skip
      have hk2 : i = vs.length := by simp at h; omega
      have hX2 : X = c.props.flatMap (partL d) := by rw [hX, hk2, hlen, List.take_length]
      refine WK.exit ?_
      refine WK.exit_code ?_
      refine WK.exit_lp ?_
      refine WK.exit_hit ?_
      refine WK.seq ?_
      refine WK.region ?_
      refine WL.mvL rfl rfl ?_
      refine WL.buildSlice rfl [(str _)] rfl rfl ⟨Fit.one rfl, trivial⟩ rfl fun b101 blk101 v101 hb101 hO101 => ?_
      obtain ⟨a101, c101, hv101, hc101⟩ := hO101.shape; subst hv101
      refine WL.append rfl rfl hO (by first | exact .here | exact .there .here | exact .there (.there .here) | exact .there (.there (.there .here)) | exact .there (.there (.there (.there .here))) | exact .there (.there (.there (.there (.there .here))))) rfl (hO101.sl fun p hp => .inr (At.mem (by first | exact .here | exact .there .here | exact .there (.there .here) | exact .there (.there (.there .here)) | exact .there (.there (.there (.there .here))) | exact .there (.there (.there (.there (.there .here))))) p hp)) rfl rfl (by simp only [List.length_map, List.length_append, List.length_cons, List.length_nil]; omega) _ (fun _ => (by first | exact .here | exact .there .here | exact .there (.there .here) | exact .there (.there (.there .here)) | exact .there (.there (.there (.there .here))) | exact .there (.there (.there (.there (.there .here)))))) fun v102 blk102 hO102 => ?_
      obtain ⟨a102, c102, hv102, hc102⟩ := hO102.shape; subst hv102
      refine WL.drop (.drop .refl) ?_
      refine WL.asL rfl rfl ?_
      refine WL.nil ?_
      refine WK.ret ?_
      -- end
      refine WK.drop (own' := [blk102]) (.keep (.drop .nil)) ?_
      refine WK.end1 rfl (show _ = .slice _ _ _ from rfl) ?_
      refine ⟨rfl, _, _, _, _, rfl, rfl, hO102.xs ?_⟩
      rw [cardL_eq, hX2]; simp only [List.map_append]; rfl
end Go.SL
