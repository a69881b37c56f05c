/- vcard.raw: a property with its value as it is written: contract. -/
import Derived.Test.YtbigjpjmdkgjmaaDoorVpl
namespace Go.SL
open Go Go.Proofs
set_option linter.unusedVariables false
set_option linter.unusedSimpArgs false

theorem WK.nomark {P : Program} {r : Option Nat} {Γ : Ent} {fn : Func} {Φ : Value → Imm → Own → Prop} {n : Nat} {m : Imm} {own : Own} {ρ : Nat → Value}
    (h : WK P ⟨P, r, Γ, retPost P fn Γ Φ⟩ n [] m own ρ .ret []) : WK P ⟨P, r, Γ, retPostM P fn Γ Φ⟩ n [] m own ρ .ret [] := by
  intro a w hf hs
  obtain ⟨_, v, hv, hR⟩ := h a w hf hs
  show LeavesInM _ _ _ _ _ _ a.defers _ _
  rw [hf.defers]
  exact ⟨v, hv, hR⟩
theorem run_loadBox {P : Program} {ty : TypeId} {k bytes b : Nat} {z : Value} {w : World} {arr : Array Value} {tb : TypeId} [hT : Ty P ty true k bytes z] (h : w.heap[b]? = some (.cells arr tb (0, 0))) (hk : arr.size = k) :
    (loadVar ty ⟨b, 0, none⟩).run P w = .ok (.agg arr) w := by
  have hrun := run_loadCells (P := P) (w := w) (a := ⟨b, 0, none⟩) (cs := arr.toList) (fun j v hj => by rw [cell_add h, Nat.zero_add]; simpa using hj)
  rw [Array.length_toList, hk] at hrun
  simp [loadVar, Sem.run_bind, hT.isAgg, hT.size, Result.andThen, hrun]
theorem raw_tr {m : Imm} {sp : Value} {h : Hd} (hT : Tabs fun b o => m b = some o) (hs : Sl (fun b o => m b = some o) 2 sp (h.ps.map parV)) (hps : h.ps.length ≤ 4) (hv : h.v.length ≤ 600) (aa : Option Addr) (al ac : Nat) :
    Tr Tryd.prog 20 [propV h.g h.n sp h.v (.slice aa al ac)] m [] fun u m' own' => m' = m ∧ ∃ blk x sp', own' = [blk, x] ∧ u = propV h.g h.n sp' (rawV h) (.slice none 0 0) ∧ OSl blk 2 58 sp' ((rawPs h).map parV) := by
  obtain ⟨a, c, hpv, _⟩ := hs.shape
  rw [List.length_map] at hpv
  subst hpv
  refine Tr.ofM Tryd.func20 Tryd.ntmps20 rfl rfl fun w => ?_
  refine WK.seq ?_
  refine WK.region ?_
  refine WL.box rfl rfl fun b1 => ?_
  refine WL.alloc rfl fun b2 => ?_
  refine WL.nil ?_
  refine WK.seq ?_
  refine WK.region ?_
  refine WL.fieldO rfl rfl ?_
  refine WL.store1O rfl (show _ = (.slice _ _ _) from rfl) rfl (by first | exact .here | exact .there .here | exact .there (.there .here) | exact .there (.there (.there .here)) | exact .there (.there (.there (.there .here))) | exact .there (.there (.there (.there (.there .here))))) rfl ?_
  refine WL.nil ?_
  refine WK.seq ?_
  refine WK.region ?_
  refine WL.fieldO rfl rfl ?_
  refine WL.load1O rfl rfl (by first | exact .here | exact .there .here | exact .there (.there .here) | exact .there (.there (.there .here)) | exact .there (.there (.there (.there .here))) | exact .there (.there (.there (.there (.there .here))))) (show _ = some (.slice _ _ _) from rfl) ?_
  refine WL.call (clone_tr hs (by rw [List.length_map]; omega)) rfl rfl rfl .none ?_
  rintro u m1 back hle ⟨hm1, blk, hb, hO⟩; subst m1; subst hb; obtain ⟨a9, c9, hv9, _⟩ := hO.shape; rw [List.length_map] at hv9; subst hv9
  refine WL.fieldO rfl rfl ?_
  refine WL.store1O rfl (show _ = (.slice _ _ _) from rfl) rfl (by first | exact .here | exact .there .here | exact .there (.there .here) | exact .there (.there (.there .here)) | exact .there (.there (.there (.there .here))) | exact .there (.there (.there (.there (.there .here))))) rfl ?_
  refine WL.nil ?_
  refine WK.seq ?_
  refine WK.region ?_
  refine WL.asC rfl ?_
  refine WL.nil ?_
  refine WK.seq ?_
  refine WK.block ?_
  refine WK.seq ?_
  refine WK.region ?_
  refine WL.fieldO rfl rfl ?_
  refine WL.load1O rfl rfl (by first | exact .here | exact .there .here | exact .there (.there .here) | exact .there (.there (.there .here)) | exact .there (.there (.there (.there .here))) | exact .there (.there (.there (.there (.there .here))))) (show _ = some (str _) from rfl) ?_
  refine WL.callp (vplain_pu _ (by omega)) rfl rfl rfl ?_
  refine WL.asB rfl rfl ?_
  refine WL.nil ?_
  -- cond
  refine WK.cond rfl (fun e1 => ?_) (fun e1 => ?_)
  · have hr1 : rawPs h = h.ps := by rw [rawPs, if_pos e1]
    have hr2 : rawV h = h.v := by rw [rawV, if_pos e1]
    refine WK.region ?_
    refine WL.asC rfl ?_
    refine WL.nil ?_
    refine WK.blk ?_
    refine WK.seq ?_
    refine WK.seq ?_
    refine WK.region ?_
    refine WL.mvI rfl rfl ?_
    refine WL.nil ?_
    refine WK.block ?_
    refine WK.seq ?_
    refine WK.block ?_
    refine WK.seq ?_
    refine WK.block ?_
    refine WK.seq ?_
    refine WK.block ?_
    refine WK.seq ?_
    refine WK.seq ?_
    refine WK.seq ?_
    refine WK.region ?_
    refine WL.eql rfl rfl rfl ?_
    refine WL.asB rfl rfl ?_
    refine WL.nil ?_
    -- cond
    refine WK.cond rfl (fun e2 => ?_) (fun e2 => ?_)
    · exact absurd e2 (by decide)
    · skip
      refine WK.skip ?_
      refine WK.seq ?_
      refine WK.region ?_
      refine WL.eql rfl rfl rfl ?_
      refine WL.asB rfl rfl ?_
      refine WL.nil ?_
      -- cond
      refine WK.cond rfl (fun e3 => ?_) (fun e3 => ?_)
      · exact absurd e3 (by decide)
      · skip
        refine WK.skip ?_
        refine WK.exit ?_
        refine WK.exit_miss rfl ?_
        refine WK.exit_code ?_
        refine WK.exit_miss rfl ?_
        refine WK.exit_code ?_
        refine WK.exit_hit ?_
        refine WK.exit ?_
        refine WK.exit_hit ?_
        refine WK.seq ?_
        refine WK.region ?_
        refine WL.loadAO rfl rfl (by first | exact .here | exact .there .here | exact .there (.there .here) | exact .there (.there (.there .here)) | exact .there (.there (.there (.there .here))) | exact .there (.there (.there (.there (.there .here))))) (by rfl) ?_
        refine WL.storeAO rfl rfl rfl (by first | exact .here | exact .there .here | exact .there (.there .here) | exact .there (.there (.there .here)) | exact .there (.there (.there (.there .here))) | exact .there (.there (.there (.there (.there .here))))) (by rfl) (by rfl) (propV_one h.g h.n a9 _ c9 h.v none 0 0) ?_
        refine WL.nil ?_
        refine WK.ret ?_
        -- end
        refine WK.drop (.keep (.keep (.drop .refl))) ?_
        refine WK.nomark ?_
        refine WK.endCell rfl rfl (At.mem (blk := [(b2, .cells _ _ (0, 0))]) (by first | exact .here | exact .there .here | exact .there (.there .here) | exact .there (.there (.there .here)) | exact .there (.there (.there (.there .here))) | exact .there (.there (.there (.there (.there .here))))) _ (List.mem_singleton.2 rfl)) (fun w h => by exact run_loadBox h (by rfl)) rfl ?_
        rw [hr1, hr2]
        exact ⟨rfl, _, _, _, rfl, rfl, hO⟩
  · skip
    refine WK.seq ?_
    refine WK.region ?_
    refine WL.fieldO rfl rfl ?_
    refine WL.load1O rfl rfl (by first | exact .here | exact .there .here | exact .there (.there .here) | exact .there (.there (.there .here)) | exact .there (.there (.there (.there .here))) | exact .there (.there (.there (.there (.there .here))))) (show _ = some (str _) from rfl) ?_
    refine WL.callm (cvalid_pm (hT.mono fun b o h => .inl h) _ (by omega)) rfl rfl rfl ?_
    refine WL.asB rfl rfl ?_
    refine WL.nil ?_
    -- cond
    refine WK.cond rfl (fun e2 => ?_) (fun e2 => ?_)
    · have hr1 : rawPs h = h.ps ++ [csP, qpP] := by rw [rawPs, if_neg (by rw [e1]; decide), if_pos e2]
      have hr2 : rawV h = qEnc h.v := by rw [rawV, if_neg (by rw [e1]; decide), if_pos e2]
      refine WK.region ?_
      refine WL.asC rfl ?_
      refine WL.nil ?_
      refine WK.blk ?_
      refine WK.seq ?_
      refine WK.seq ?_
      refine WK.region ?_
      refine WL.mvI rfl rfl ?_
      refine WL.nil ?_
      refine WK.block ?_
      refine WK.seq ?_
      refine WK.block ?_
      refine WK.seq ?_
      refine WK.block ?_
      refine WK.seq ?_
      refine WK.block ?_
      refine WK.seq ?_
      refine WK.seq ?_
      refine WK.seq ?_
      refine WK.region ?_
      refine WL.eql rfl rfl rfl ?_
      refine WL.asB rfl rfl ?_
      refine WL.nil ?_
      -- cond
      refine WK.cond rfl (fun e3 => ?_) (fun e3 => ?_)
      · exact absurd e3 (by decide)
      · skip
        refine WK.skip ?_
        refine WK.seq ?_
        refine WK.region ?_
        refine WL.eql rfl rfl rfl ?_
        refine WL.asB rfl rfl ?_
        refine WL.nil ?_
        -- cond
        refine WK.cond rfl (fun e4 => ?_) (fun e4 => ?_)
        · skip
          refine WK.exit ?_
          refine WK.exit_code ?_
          refine WK.exit_miss rfl ?_
          refine WK.exit_code ?_
          refine WK.exit_hit ?_
          refine WK.seq ?_
          -- draw
          refine WK.drawnQ 5 #[[], [0], [], [2], [], [2, 3, 4], [0, 1, 2, 3, 4, 5], [0, 1, 2, 3, 4, 5, 6], [0, 1, 2, 3, 4, 5, 6, 7]] [0, 1] rfl rfl rfl mixed_ok (by kernel_rfl) ?_
          refine WRL.late rfl rfl (fun K h => WL.fieldO rfl rfl h) (fun blk K h => WL.fieldO rfl rfl h) ?_
          refine WRL.late rfl rfl (fun K h => WL.load1O rfl rfl (by first | exact .here | exact .there .here | exact .there (.there .here) | exact .there (.there (.there .here)) | exact .there (.there (.there (.there .here))) | exact .there (.there (.there (.there (.there .here))))) (show _ = some (.slice _ _ _) from rfl) h) (fun blk K h => WL.load1O rfl rfl (by first | exact .here | exact .there .here | exact .there (.there .here) | exact .there (.there (.there .here)) | exact .there (.there (.there (.there .here))) | exact .there (.there (.there (.there (.there .here))))) (show _ = some (.slice _ _ _) from rfl) h) ?_
          refine WRL.cons rfl rfl (fun K h => WL.callp (cname_pu) rfl rfl rfl h) rfl ?_
          refine WRL.cons rfl rfl (fun K h => WL.build (cs := #[(str _), (str _)]) rfl rfl h) rfl ?_
          refine WRL.cons rfl rfl (fun K h => WL.build (cs := #[(str _), (str _)]) rfl rfl h) rfl ?_
          refine WRL.nil ⟨_, QStep.buildSlice rfl [(.agg #[(str _), (str _)]), (.agg #[(str _), (str _)])] rfl rfl ⟨⟨rfl, by simp [Value.cells, str, Value.oneCell']⟩, ⟨rfl, by simp [Value.cells, str, Value.oneCell']⟩, trivial⟩ rfl, ?_⟩
          rintro v45 m45 own45 ⟨hm45, b45, blk45, hb45, ho45, hO45⟩; subst m45; subst ho45; refine ⟨⟨rfl, _, rfl⟩, ?_⟩
          obtain ⟨a45, c45, hv45, hc45⟩ := hO45.shape; subst hv45
          refine WL.append rfl rfl hO (by first | exact .here | exact .there .here | exact .there (.there .here) | exact .there (.there (.there .here)) | exact .there (.there (.there (.there .here))) | exact .there (.there (.there (.there (.there .here))))) rfl (hO45.sl fun p hp => .inr (At.mem (by first | exact .here | exact .there .here | exact .there (.there .here) | exact .there (.there (.there .here)) | exact .there (.there (.there (.there .here))) | exact .there (.there (.there (.there (.there .here))))) p hp)) rfl rfl (by simp; omega) _ (fun _ => (by first | exact .here | exact .there .here | exact .there (.there .here) | exact .there (.there (.there .here)) | exact .there (.there (.there (.there .here))) | exact .there (.there (.there (.there (.there .here)))))) fun v46 blk46 hO46 => ?_
          obtain ⟨a46, c46, hv46, hc46⟩ := hO46.shape; subst hv46
          refine WL.drop (.drop .refl) ?_
          refine WL.fieldO rfl rfl ?_
          refine WL.store1O rfl (show _ = (.slice _ _ _) from rfl) rfl (by first | exact .here | exact .there .here | exact .there (.there .here) | exact .there (.there (.there .here)) | exact .there (.there (.there (.there .here))) | exact .there (.there (.there (.there (.there .here))))) rfl ?_
          refine WL.nil ?_
          refine WK.region ?_
          refine WL.fieldO rfl rfl ?_
          refine WL.load1O rfl rfl (by first | exact .here | exact .there .here | exact .there (.there .here) | exact .there (.there (.there .here)) | exact .there (.there (.there (.there .here))) | exact .there (.there (.there (.there (.there .here))))) (show _ = some (str _) from rfl) ?_
          refine WL.callp (qenc_pu _ (by omega)) rfl rfl rfl ?_
          refine WL.fieldO rfl rfl ?_
          refine WL.store1O rfl (show _ = (str _) from rfl) rfl (by first | exact .here | exact .there .here | exact .there (.there .here) | exact .there (.there (.there .here)) | exact .there (.there (.there (.there .here))) | exact .there (.there (.there (.there (.there .here))))) rfl ?_
          refine WL.nil ?_
          refine WK.blk ?_
          refine WK.exit ?_
          refine WK.exit_hit ?_
          refine WK.seq ?_
          refine WK.region ?_
          refine WL.loadAO rfl rfl (by first | exact .here | exact .there .here | exact .there (.there .here) | exact .there (.there (.there .here)) | exact .there (.there (.there (.there .here))) | exact .there (.there (.there (.there (.there .here))))) (by rfl) ?_
          refine WL.storeAO rfl rfl rfl (by first | exact .here | exact .there .here | exact .there (.there .here) | exact .there (.there (.there .here)) | exact .there (.there (.there (.there .here))) | exact .there (.there (.there (.there (.there .here))))) (by rfl) (by rfl) (propV_one h.g h.n a46 _ c46 (qEnc h.v) none 0 0) ?_
          refine WL.nil ?_
          refine WK.ret ?_
          -- end
          refine WK.drop (.keep (.keep (.drop .refl))) ?_
          refine WK.nomark ?_
          refine WK.endCell rfl rfl (At.mem (blk := [(b2, .cells _ _ (0, 0))]) (by first | exact .here | exact .there .here | exact .there (.there .here) | exact .there (.there (.there .here)) | exact .there (.there (.there (.there .here))) | exact .there (.there (.there (.there (.there .here))))) _ (List.mem_singleton.2 rfl)) (fun w h => by exact run_loadBox h (by rfl)) rfl ?_
          rw [hr1, hr2]
          refine ⟨rfl, _, _, _, rfl, rfl, ?_⟩
          rw [List.map_append]
          exact hO46
        · skip
          exact absurd e4 (by decide)
    · skip
      have hr1 : rawPs h = h.ps ++ [b6P] := by rw [rawPs, if_neg (by rw [e1]; decide), if_neg (by rw [e2]; decide)]
      have hr2 : rawV h = b64 h.v := by rw [rawV, if_neg (by rw [e1]; decide), if_neg (by rw [e2]; decide)]
      refine WK.skip ?_
      refine WK.blk ?_
      refine WK.seq ?_
      refine WK.seq ?_
      refine WK.region ?_
      refine WL.mvI rfl rfl ?_
      refine WL.nil ?_
      refine WK.block ?_
      refine WK.seq ?_
      refine WK.block ?_
      refine WK.seq ?_
      refine WK.block ?_
      refine WK.seq ?_
      refine WK.block ?_
      refine WK.seq ?_
      refine WK.seq ?_
      refine WK.seq ?_
      refine WK.region ?_
      refine WL.eql rfl rfl rfl ?_
      refine WL.asB rfl rfl ?_
      refine WL.nil ?_
      -- cond
      refine WK.cond rfl (fun e3 => ?_) (fun e3 => ?_)
      · skip
        have hel := encTo_len h.v ((h.v.length + 2) / 3)
        refine WK.exit ?_
        refine WK.exit_code ?_
        refine WK.exit_code ?_
        refine WK.exit_hit ?_
        refine WK.seq ?_
        refine WK.seq ?_
        refine WK.region ?_
        refine WL.fieldO rfl rfl ?_
        refine WL.load1O rfl rfl (by first | exact .here | exact .there .here | exact .there (.there .here) | exact .there (.there (.there .here)) | exact .there (.there (.there (.there .here))) | exact .there (.there (.there (.there (.there .here))))) (show _ = some (.slice _ _ _) from rfl) ?_
        refine WL.build (cs := #[(str _), (str _)]) rfl rfl ?_
        refine WL.buildSlice rfl [(.agg #[(str _), (str _)])] rfl rfl ⟨⟨rfl, by simp [Value.cells, str, Value.oneCell']⟩, trivial⟩ rfl fun b27 blk27 v27 hb27 hO27 => ?_
        obtain ⟨a27, c27, hv27, hc27⟩ := hO27.shape; subst hv27
        refine WL.append rfl rfl hO (by first | exact .here | exact .there .here | exact .there (.there .here) | exact .there (.there (.there .here)) | exact .there (.there (.there (.there .here))) | exact .there (.there (.there (.there (.there .here))))) rfl (hO27.sl fun p hp => .inr (At.mem (by first | exact .here | exact .there .here | exact .there (.there .here) | exact .there (.there (.there .here)) | exact .there (.there (.there (.there .here))) | exact .there (.there (.there (.there (.there .here))))) p hp)) rfl rfl (by simp; omega) _ (fun _ => (by first | exact .here | exact .there .here | exact .there (.there .here) | exact .there (.there (.there .here)) | exact .there (.there (.there (.there .here))) | exact .there (.there (.there (.there (.there .here)))))) fun v28 blk28 hO28 => ?_
        obtain ⟨a28, c28, hv28, hc28⟩ := hO28.shape; subst hv28
        refine WL.drop (.drop .refl) ?_
        refine WL.fieldO rfl rfl ?_
        refine WL.store1O rfl (show _ = (.slice _ _ _) from rfl) rfl (by first | exact .here | exact .there .here | exact .there (.there .here) | exact .there (.there (.there .here)) | exact .there (.there (.there (.there .here))) | exact .there (.there (.there (.there (.there .here))))) rfl ?_
        refine WL.nil ?_
        refine WK.seq ?_
        refine WK.region ?_
        refine WL.alloc rfl fun b4 => ?_
        refine WL.nil ?_
        refine WK.seq ?_
        refine WK.seq ?_
        refine WK.region ?_
        refine WL.fieldO rfl rfl ?_
        refine WL.load1O rfl rfl (by first | exact .here | exact .there .here | exact .there (.there .here) | exact .there (.there (.there .here)) | exact .there (.there (.there (.there .here))) | exact .there (.there (.there (.there (.there .here))))) (show _ = some (str _) from rfl) ?_
        refine WL.callp (senc_pu _ (by omega)) rfl rfl rfl ?_
        refine WL.call (slines_tr _ (encTo h.v ((h.v.length + 2) / 3)) 60 (by omega)) rfl rfl rfl .none ?_
        rintro u m1 back hle ⟨hm1, b92, b93, hu, hb⟩; subst m1; subst hu; subst hb
        refine WL.nil ?_
        refine WK.block ?_
        -- range
        refine WK.range rfl rfl fun D l rec h1 h2 hpr has hbd hsz htm => ?_
        have hrec : ({ { rec with state := .busy } with state := .ready, pending := none } : Loop) = rec := by cases rec; simp at h1 h2; subst h1; subst h2; rfl
        generalize hes : encTo h.v ((h.v.length + 2) / 3) = es at *
        refine ⟨_, _, _, .here (.here (.here (.here (.here .none)))), Tr.perm (own := [(b93, .cells #[.int .i64 (60 : Nat)] 3 (0, 0))] :: [(b92, .cells #[str es] 9 (0, 0))] :: [(l, .loop rec)] :: [(D, .deferred (some []))] :: [[(b4, .cells (Value.agg #[.pointer none, .slice none 0 0]).cells 50 (0, 0))]]) ?_
          (slinesF_tr (rec := rec) (by rw [hpr]; rfl) (by omega) (by omega) (by omega) (fun i m2 own => m2 = m ∧ ∃ blk X, own = [[(l, .loop rec)], [(D, .deferred (some []))], blk] ∧ IsB blk b4 X ∧ X ++ (pieces 60 (rest 60 es i).length (rest 60 es i)).flatMap (32 :: ·) = wrapL es) ?_ ?_ ?_), ?_⟩
        · exact List.Perm.append_right [_] (List.perm_append_comm (l₁ := [_, _]) (l₂ := [_, _]))
        · rintro i m2 own ⟨_, blk, X, rfl, _⟩; simp
        · rintro q m2 own hne ⟨rfl, blk, X, rfl, hB, hX⟩
          rw [has, hbd]
          obtain ⟨y1, y2, y3⟩ := yield1 (v := str ((rest 60 es q).take 60)) hpr hsz rfl
          have hXl : X.length ≤ 10000 := by
            have h3 := congrArg List.length hX
            have h4 := wrapL_len es
            rw [List.length_append] at h3
            omega
          have hpl : ((rest 60 es q).take 60).length ≤ 60 := List.length_take_le _ _
          refine RTr.of y1 (G := Unit) (fun _ => [(5, str ((rest 60 es q).take 60)), (4, .pointer (some ⟨b4, 0, none⟩))]) (fun _ => m2) (fun _ => [[(l, .loop rec)], [(D, .deferred (some []))], blk]) (fun _ => True) ?_ ?_
          · intro w
            refine WK.known [(34, str ((rest 60 es q).take 60)), (4, .pointer (some ⟨b4, 0, none⟩))] ⟨y2, (y3 4 rfl).trans (htm 4), trivial⟩ ?_
            refine WK.region ?_
            refine WL.asS rfl rfl ?_
            refine WL.nil ?_
            -- again
            exact WK.met () trivial ⟨rfl, rfl, trivial⟩ rfl rfl
          · rintro w _ ρ _
            refine ⟨rec, _, h1, .here, ?_⟩
            refine WK.block ?_
            refine WK.region ?_
            refine WL.mvS rfl rfl ?_
            refine WL.addS rfl rfl rfl (by simp; omega) ?_
            refine WL.call (writeString_tr _ hB (32 :: (rest 60 es q).take 60) (by rw [List.length_cons]; omega)) rfl rfl rfl (.there (.there (.here .none))) ?_
            rintro u m1 back hle ⟨hm1, bk1, hbk1, hB1⟩; subst m1; subst hbk1
            refine WL.nil ?_
            refine WK.blk ?_
            -- end
            refine WK.perm (own' := [[(l, .loop { rec with state := .busy })], [(D, .deferred (some []))], bk1]) (List.perm_append_comm (l₁ := [_]) (l₂ := [_, _])) ?_
            refine WK.endRound .here ⟨rfl, rfl, bk1, _, by rw [hrec], hB1, ?_⟩
            exact wrap_step hne hX
        · exact ⟨rfl, _, [], rfl, IsB.new b4, rfl⟩
        · rintro v m2 back hle ⟨i, own1, hnil, ⟨rfl, blk2, X, rfl, hB, hX⟩, rfl⟩
          refine ⟨rec, _, by rw [h1]; decide, h2, .there (.there .here), ?_⟩
          rw [hnil, pieces_nil] at hX
          simp only [List.flatMap_nil, List.append_nil] at hX
          subst hX
          have hwl := wrapL_len es
          refine WK.drop (own' := [[(D, .deferred (some []))], blk2, blk28, [(b2, .cells (Value.agg #[str [], str [], .slice none 0 0, str [], .slice none 0 0]).cells 42 (0, 0))], [(b1, .cells #[str h.g, str h.n, .slice a28 (List.map parV h.ps ++ [parV b6P]).length c28, str h.v, .slice none 0 0] 42 (0, 0))]]) (.drop (.drop (.drop .refl))) ?_
          refine WK.blk ?_
          refine WK.region ?_
          refine WL.call (string_tr _ hB (by omega)) rfl rfl rfl (.there (.here .none)) ?_
          rintro u m1 back hle ⟨hu1, hm1, hbk1⟩; subst m1; subst hu1; subst hbk1
          refine WL.fieldO rfl rfl ?_
          refine WL.store1O rfl (show _ = (str _) from rfl) rfl (by first | exact .here | exact .there .here | exact .there (.there .here) | exact .there (.there (.there .here)) | exact .there (.there (.there (.there .here))) | exact .there (.there (.there (.there (.there .here))))) rfl ?_
          refine WL.nil ?_
          refine WK.exit ?_
          refine WK.exit_miss rfl ?_
          refine WK.exit_code ?_
          refine WK.exit_miss rfl ?_
          refine WK.exit_code ?_
          refine WK.exit_hit ?_
          refine WK.seq ?_
          refine WK.region ?_
          refine WL.loadAO rfl rfl (by first | exact .here | exact .there .here | exact .there (.there .here) | exact .there (.there (.there .here)) | exact .there (.there (.there (.there .here))) | exact .there (.there (.there (.there (.there .here))))) (by rfl) ?_
          refine WL.storeAO rfl rfl rfl (by first | exact .here | exact .there .here | exact .there (.there .here) | exact .there (.there (.there .here)) | exact .there (.there (.there (.there .here))) | exact .there (.there (.there (.there (.there .here))))) (by rfl) (by rfl) (propV_one h.g h.n a28 _ c28 (wrapL es) none 0 0) ?_
          refine WL.nil ?_
          refine WK.ret ?_
          -- end
          refine WK.unmark .here ?_
          refine WK.drop (.drop (.keep (.keep (.drop .refl)))) ?_
          refine WK.endCell rfl rfl (At.mem (blk := [(b2, .cells _ _ (0, 0))]) (by first | exact .here | exact .there .here | exact .there (.there .here) | exact .there (.there (.there .here)) | exact .there (.there (.there (.there .here))) | exact .there (.there (.there (.there (.there .here))))) _ (List.mem_singleton.2 rfl)) (fun w h => by exact run_loadBox h (by rfl)) rfl ?_
          rw [hr1, hr2]
          refine ⟨rfl, _, _, _, rfl, by rw [b64, hes]; rfl, ?_⟩
          rw [List.map_append]
          exact hO28
      · skip
        exact absurd e3 (by decide)
end Go.SL
