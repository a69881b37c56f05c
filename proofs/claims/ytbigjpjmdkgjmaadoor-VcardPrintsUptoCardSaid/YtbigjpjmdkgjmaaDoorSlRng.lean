/- A function that holds a range over a function: its beginning, and its end by a mark among its deferred calls. -/
import Derived.Test.YtbigjpjmdkgjmaaDoorSlBit
import Derived.RangeFuncLeaves
import Derived.RangeFuncRecord
namespace Go.SL
open Go
set_option linter.unusedVariables false
set_option linter.unusedSimpArgs false

def retPostM (P : Program) (fn : Func) (Γ : Ent) (Φ : Value → Imm → Own → Prop) : Exit → Act → World → Prop :=
  bodyPostM Fence.wide 0 P fn fun e w' => ∃ v m' own', e = .returned v ∧ Φ v m' own' ∧ Γ.St m' own' w'
theorem Tr.ofM {P : Program} {f : FuncId} {fn : Func} {c : Code} {args : List Value} {m : Imm} {own : Own} {Φ : Value → Imm → Own → Prop} {n : Nat} (hf : P.funcs[f]? = some fn) (hn : fn.ntmps = n) (hb : fn.body = some c)
    (hk : Nat.ble args.length n = true)
    (h : ∀ w, WK P ⟨P, none, ⟨w, m, own⟩, retPostM P fn ⟨w, m, own⟩ Φ⟩ n [] m own (entry args) .normal [.code c]) : Tr P f args m own Φ := by
  intro w hinv
  refine (callsIn_wide (n := 0)).1 ?_
  refine callsIn_of_wp_marks hf hb trivial ?_
  have h0 := h w { tmps := args.toArray ++ Array.replicate (fn.ntmps - args.toArray.size) undef, defers := [] } w
    (by rw [hn]; simp only [List.size_toArray]; exact FrameIs.start (by rw [Nat.ble_eq] at hk; omega)) (Ent.St.start hinv)
  simp only [sem, Exit.then] at h0
  refine Go.wpIn_mono h0 fun e a w h => ?_
  cases e <;> exact h
/-- The mark: the block of deferred calls is taken. -/
abbrev markOf (D : Nat) : Deferred := { target := .collected D, args := #[] }
theorem WK.unmark {P : Program} {r : Option Nat} {Γ : Ent} {fn : Func} {Φ : Value → Imm → Own → Prop} {n : Nat} {m : Imm} {own own' : Own} {ρ : Nat → Value} {D : Nat}
    (hB : BUpd own [(D, .deferred (some []))] [] own') (h : WK P ⟨P, r, Γ, retPost P fn Γ Φ⟩ n [] m own' ρ .ret []) : WK P ⟨P, r, Γ, retPostM P fn Γ Φ⟩ n [markOf D] m own ρ .ret [] := by
  intro a w hf hs
  have hD : w.heap[D]? = some (.deferred (some [])) := hs.rd (.inr (hB.at.mem _ (by simp)))
  have hs' : Γ.St m own' (w.putObj D (.deferred none)) := hs.put hB ⟨rfl, rfl, rfl, by simp [World.putObj], fun b _ hb => by
    have : D ≠ b := by rintro rfl; simp at hb
    simp [World.putObj, Array.getElem?_setIfInBounds, this], by simp, by simp, by simp⟩
  have h1 := h { tmps := a.tmps, defers := [] } _ ⟨hf.size, rfl, hf.slot⟩ hs'
  obtain ⟨_, v, hv, hR⟩ := h1
  show LeavesInM _ _ _ _ _ _ a.defers _ _
  rw [hf.defers]
  exact ⟨by simp, .inl ⟨D, _, rfl, run_takeDeferred hD, ⟨v, hv, hR⟩⟩⟩

/-- A round's contract: over memory, own blocks in and out. -/
def RTr (P : Program) (l : Nat) (f : FuncId) (tmps : Array Value) (assign body : Code) (m : Imm) (own : Own) (Φ : Value → Imm → Own → Prop) : Prop :=
  ∀ r w, Inv m own w → RoundIn (fw r) 0 P l f tmps assign body w fun e w' => ∃ v m' own', e = .returned v ∧ Φ v m' own' ∧ (⟨w, m, own⟩ : Ent).St m' own' w'
def yieldTmps (rec : Loop) (vs : List Value) : Array Value := (rec.params.zip vs.toArray).foldl (fun tmps (p : Tmp × Value) => tmps.setIfInBounds p.1 p.2) rec.tmps
section
variable {P : Program} {E : Env} {n : Nat} {ds : List Deferred} {m : Imm} {own own' : Own} {ρ : Nat → Value} {ks : List Kt} {ops : Array Oper} {rest : List Oper} {d : Nat} {ty : TypeId} {pos : String} {af : Array Edge}
theorem WL.callY {c : Operand} {args : Array Operand} {tys : Array TypeId} {l : Nat} {rec : Loop} {vs : List Value} {lent : Own} {Φ : Value → Imm → Own → Prop} (hin : (l, Obj.loop rec) ∈ own.flatten)
    (hp : RTr P l rec.fn (yieldTmps rec vs) rec.assign rec.body m lent Φ) (hd : Nat.blt d n = true)
    (hc : ev ρ c = .func (.yield l) #[] #[]) (ha : args.toList.map (ev ρ) = vs) (hsz : vs.length = rec.params.size) (hl : Lend own lent own')
    (h : ∀ v m' back, Le m m' → Φ v m' back → WL P E n ds m' (back ++ own') (upd ρ d v) ops rest ks) :
    WL P E n ds m own ρ ops (⟨some d, .call ⟨.value c, args, tys⟩, ty, pos, af, none⟩ :: rest) ks := by
  intro a w hf hs
  have hs' := hs.perm hl.perm
  have hl' : w.heap[l]? = some (.loop rec) := hs.rd (.inr hin)
  refine wpl_plain rfl ⟨fun _ _ => trivial, ?_⟩
  have hav : args.map (ev ρ) = vs.toArray := by apply Array.ext'; rw [Array.toList_map, ha]
  have hy : (Instr.yield l vs.toArray).run P w = .ok (.round l rec.fn (yieldTmps rec vs) rec.assign rec.body) w := run_yield (P := P) (w := w) (args := vs.toArray) hl' (by simpa using hsz)
  have hrun : (execOp (ev ρ) ⟨some d, .call ⟨.value c, args, tys⟩, ty, pos, af, none⟩).run P w = .ok (.round l rec.fn (yieldTmps rec vs) rec.assign rec.body) w := by
    simp [execOp, resolve, hc, Deferred.ofValue, invoke, hav, Sem.run_bind, Result.andThen, hy]
  rw [Oper.semAt_eq _ _ _ (by simp), hf.eval, hrun]
  refine ⟨by simp [fw], ?_⟩
  refine (hp _ w hs'.part).mono ?_
  rintro e w' ⟨v, m', back, rfl, hΦ, st⟩
  exact h v m' back st.le hΦ _ _ (hf.put hd _) (hs'.grown st)
end
/-- What a round must reach: yield hands back true. -/
def roundFin (P : Program) (l : Nat) (Γ : Ent) (Φ : Value → Imm → Own → Prop) : Exit → Act → World → Prop := roundPost P l fun e w' => ∃ v m' own', e = .returned v ∧ Φ v m' own' ∧ Γ.St m' own' w'
theorem turned_put {w : World} {l : Nat} {o o' : Obj} (hl : w.heap[l]? = some o) : Turned w (w.putObj l o') [(l, o)] [(l, o')] := by
  have hlt : l < w.heap.size := (Array.getElem?_eq_some_iff.1 hl).1
  refine ⟨rfl, rfl, rfl, by simp [World.putObj], fun b _ hb => ?_, ?_, by simp, by simp⟩
  · have : l ≠ b := by rintro rfl; simp at hb
    simp [World.putObj, Array.getElem?_setIfInBounds, this]
  · intro p hp
    obtain rfl : p = (l, o') := by simpa using hp
    exact World.putObj_heap_same hlt
theorem WK.endRound {P : Program} {r : Option Nat} {Γ : Ent} {Φ : Value → Imm → Own → Prop} {n : Nat} {m : Imm} {own own' : Own} {ρ : Nat → Value} {l : Nat} {rec : Loop}
    (hB : BUpd own [(l, .loop rec)] [(l, .loop { rec with state := .ready, pending := none })] own') (h : Φ (.bool true) m own') : WK P ⟨P, r, Γ, roundFin P l Γ Φ⟩ n [] m own ρ .normal [] := by
  intro a w hf hs
  have hl : w.heap[l]? = some (.loop rec) := hs.rd (.inr (hB.at.mem _ (by simp)))
  exact ⟨.bool true, _, run_endRound none hl, .bool true, m, own', rfl, h, hs.put hB (turned_put hl)⟩
theorem RTr.of {P : Program} {l : Nat} {f : FuncId} {tmps : Array Value} {assign body : Code} {m : Imm} {own : Own} {Φ : Value → Imm → Own → Prop} {n : Nat} (hn : tmps.size = n) {G : Type} (sl : G → List (Nat × Value)) (mm : G → Imm) (oo : G → Own) (I : G → Prop)
    (h1 : ∀ w, WK P ⟨P, some l, ⟨w, m, own⟩, fun _ _ _ => False⟩ n [] m own (fun i => tmps.getD i undef) .normal [.code assign, .lp (Mid ⟨P, some l, ⟨w, m, own⟩, fun _ _ _ => False⟩ n [] sl mm oo I)])
    (h2 : ∀ w g ρ, I g → ∃ rec own2, rec.state = .ready ∧ BUpd (oo g) [(l, .loop rec)] [(l, .loop { rec with state := .busy })] own2 ∧
      WK P ⟨P, some l, ⟨w, m, own⟩, roundFin P l ⟨w, m, own⟩ Φ⟩ n [] (mm g) own2 (upds (sl g) ρ) .normal [.code body]) : RTr P l f tmps assign body m own Φ := by
  intro r w hinv
  refine roundIn_of_wpIn (F := fw r) trivial ?_
  have h0 := h1 w { tmps := tmps, defers := [] } w ⟨hn, rfl, fun i => rfl⟩ (Ent.St.start hinv)
  simp only [sem, Exit.then] at h0
  show assign.wpIn (fw (some l)) 0 P _ _ _
  refine Go.wpIn_mono h0 fun e a w1 h => ?_
  cases e with
  | normal =>
    obtain ⟨g, ρ, hI, r1, r2, r3⟩ := h
    obtain ⟨rec, own2, hst, hB, hb⟩ := h2 w g ρ hI
    have hl : w1.heap[l]? = some (.loop rec) := r3.rd (.inr (hB.at.mem _ (by simp)))
    refine ⟨_, run_beginRound hl hst, ?_⟩
    have h3 := hb a _ (by rw [upds_same r1]; exact r2) (r3.put hB (turned_put hl))
    simp only [sem, Exit.then] at h3
    refine Go.wpIn_mono h3 fun e a w h => ?_
    cases e <;> exact h
  | exit id => exact h
  | goto l => exact h
  | ret => exact h
  | panic c => exact h
  | outgrown => exact h

/-- The statement: two new blocks, the call of the function with yield, the pending jump (none). -/
theorem WK.range {P : Program} {E : Env} {n : Nat} {ds : List Deferred} {m : Imm} {own : Own} {ρ : Nat → Value} {ks : List Kt} {g : Operand} {ps : Array Tmp} {assign body : Code} {gf : FuncId} {captured : Array Value} [hF : IsFn P gf] (hr : E.r = none)
    (hg : ev ρ g = .func (.func gf) #[] captured)
    (h : ∀ (D l : Nat) (rec : Loop), rec.state = .ready → rec.pending = none → rec.params = ps → rec.assign = assign → rec.body = body → rec.tmps.size = n → (∀ i, rec.tmps.getD i undef = ρ i) →
      ∃ (lent own' : Own) (Φ : Value → Imm → Own → Prop), Lend ([(l, .loop rec)] :: [(D, .deferred (some []))] :: own) lent own' ∧ Tr P gf (.func (.yield l) #[] #[] :: captured.toList) m lent Φ ∧
        ∀ v m' back, Le m m' → Φ v m' back → ∃ rec2 own3, rec2.state ≠ .busy ∧ rec2.pending = none ∧ BUpd (back ++ own') [(l, .loop rec2)] [(l, .loop { rec2 with state := .exhausted })] own3 ∧ WK P E n (markOf D :: ds) m' own3 ρ .normal ks) :
    WK P E n ds m own ρ .normal (.code (.rangeFunc g ps assign body) :: ks) := by
  intro a w hf hs
  simp only [sem, Exit.then]
  refine wpIn_rangeFunc ?_
  intro fn hfn
  have hro : (fw E.r).round = none := hr
  rw [hro]
  obtain ⟨rec, hrec⟩ : ∃ rec : Loop, rec = { state := .ready, pending := none, fn, tmps := a.tmps, params := ps, assign, body, defers := w.heap.size } := ⟨_, rfl⟩
  have hs1 : E.Γ.St m ([(w.heap.size + 1, .loop rec)] :: [(w.heap.size, .deferred (some []))] :: own) ((w.alloc (.deferred (some []))).alloc (.loop rec)) := by
    have h1 := (hs.push (.deferred (some []))).push (.loop rec)
    have e : (pushed w (.deferred (some []))).heap.size = w.heap.size + 1 := by simp [pushed]
    rw [e] at h1
    exact h1
  obtain ⟨lent, own', Φ, hl, hT, hk⟩ := h w.heap.size (w.heap.size + 1) rec (by rw [hrec]) (by rw [hrec]) (by rw [hrec]) (by rw [hrec]) (by rw [hrec]) (by rw [hrec]; exact hf.size) (by rw [hrec]; exact hf.slot)
  refine ⟨w.heap.size + 1, [markOf w.heap.size], (w.alloc (.deferred (some []))).alloc (.loop rec), { target := .fn (.func gf) captured, args := #[.func (.yield (w.heap.size + 1)) #[] #[]] }, (w.alloc (.deferred (some []))).alloc (.loop rec), gf,
    #[.func (.yield (w.heap.size + 1)) #[] #[]] ++ captured, (w.alloc (.deferred (some []))).alloc (.loop rec), ?_, ?_, fun _ _ => trivial, ?_, by simp [fw], ?_⟩
  · rw [hrec]; exact run_enterLoop_outer _ _ _ _ _
  · simp only [resolve, hf.eval, hg]
    simp [go_sem, ev]
  · simp [invoke, fnOf_run hF.ok]
  · refine calls_fw ?_
    have hs2 := hs1.perm hl.perm
    have ea : #[.func (.yield (w.heap.size + 1)) #[] #[]] ++ captured = (.func (.yield (w.heap.size + 1)) #[] #[] :: captured.toList : List Value).toArray := by
      apply Array.ext'; simp
    rw [ea]
    refine (hT _ hs2.part).mono ?_
    rintro e w' ⟨v, m', back, rfl, hΦ, st⟩
    obtain ⟨rec2, own3, b1, b2, hB, hK⟩ := hk v m' back st.le hΦ
    have hs3 := hs2.grown st
    have hl' : w'.heap[w.heap.size + 1]? = some (.loop rec2) := hs3.rd (.inr (hB.at.mem _ (by simp)))
    refine ⟨none, _, by rw [← b2]; exact run_endLoop hl' b1, ?_⟩
    exact hK _ _ ⟨hf.size, by simp [hf.defers], hf.slot⟩ (hs3.put hB (turned_put hl'))
end Go.SL
