/- Rules of the separation-logic layer: calls, append, built slices and structs, bytes and texts. -/
import Derived.Test.YtbigjpjmdkgjmaaDoorSlRun
namespace Go.SL
open Go

theorem fnOf_run {P : Program} {f : FuncId} (h : fnOf P f = true) (args : Array Value) (w : World) : (callFunc f args).run P w = .ok (.enter f args) w := by
  unfold fnOf at h
  cases hf : P.funcs[f]? with
  | none => rw [hf] at h; cases h
  | some fn =>
    rw [hf] at h
    simp only [Bool.and_eq_true, Bool.not_eq_true', beq_eq_false_iff_ne, ne_eq] at h
    obtain ⟨h1, h2⟩ := h
    obtain ⟨c, hc⟩ := Option.isSome_iff_exists.1 h1
    simp [callFunc, Sem.run_bind, Result.andThen, hf, h2, hc]

/-- What the value of a call's function leads to: a function and what it has captured. -/
def calleeIs (ρ : Nat → Value) (c : Operand) (f : FuncId) (first captured : Array Value) : Prop := ev ρ c = .func (.func f) first captured

section
variable {P : Program} {E : Env} {n : Nat} {ds : List Deferred} {m : Imm} {own own' : Own} {ρ : Nat → Value} {ks : List Kt} {ops : Array Oper} {rest : List Oper}
variable {d : Nat} {ty : TypeId} {pos : String} {af : Array Edge} {x y : Operand} {t tz : TypeId}

theorem run_callValue {c : Operand} {args : Array Operand} {tys : Array TypeId} {f : FuncId} {first captured : Array Value} [hF : IsFn P f] (hc : ev ρ c = .func (.func f) first captured) (dst : Option Tmp) (w : World) :
    (execOp (ev ρ) ⟨dst, .call ⟨.value c, args, tys⟩, ty, pos, af, none⟩).run P w = .ok (.enter f (first ++ args.map (ev ρ) ++ captured)) w := by
  simp [execOp, resolve, hc, Deferred.ofValue, invoke, fnOf_run hF.ok]

theorem calls_fw {r : Option Nat} {f : FuncId} {args : Array Value} {w : World} {R : Ending → World → Prop} (h : Calls P f args w R) : CallsIn (fw r) 0 P f args w R := by
  have h1 : CallsIn Fence.wide 0 P f args w R := callsIn_wide.2 h
  exact h1

theorem args_eq {args : Array Operand} {vs : List Value} {first captured : Array Value} (ha : first.toList ++ args.toList.map (ev ρ) ++ captured.toList = vs) : first ++ args.map (ev ρ) ++ captured = vs.toArray := by
  subst ha
  apply Array.ext'
  simp
/-- A call of a function that only computes. -/
theorem WL.callp {c : Operand} {args : Array Operand} {tys : Array TypeId} {f : FuncId} {vs : List Value} {v : Value} {first captured : Array Value} (hp : Pu P f vs v) [hF : IsFn P f] (hd : Nat.blt d n = true)
    (hc : ev ρ c = .func (.func f) first captured) (ha : first.toList ++ args.toList.map (ev ρ) ++ captured.toList = vs) (h : WL P E n ds m own (upd ρ d v) ops rest ks) :
    WL P E n ds m own ρ ops (⟨some d, .call ⟨.value c, args, tys⟩, ty, pos, af, none⟩ :: rest) ks := by
  intro a w hf hs
  refine wpl_plain rfl ⟨fun _ _ => trivial, ?_⟩
  rw [Oper.semAt_eq _ _ _ (by simp), hf.eval, run_callValue hc]
  refine ⟨by simp [fw], calls_fw ?_⟩
  rw [args_eq ha]
  refine (hp w).mono ?_
  rintro e w' ⟨rfl, g⟩
  exact h _ _ (hf.put hd _) (hs.grew g)

theorem Ent.St.grown {Γ : Ent} {w w' : World} {m' : Imm} {lent back : Own} {pre : Own} (hs : Γ.St m (lent ++ pre) w) (h : Ent.St ⟨w, m, lent⟩ m' back w') : Γ.St m' (back ++ pre) w' := by
  have hnd := hs.inv.nd
  rw [keys_app, List.nodup_append] at hnd
  obtain ⟨n1, n2, n3⟩ := hnd
  have hpre : ∀ b ∈ keys pre, b < w.heap.size ∧ b ∉ keys lent := fun b hb => ⟨hs.inv.lt (by rw [keys_app]; exact List.mem_append_right _ hb), fun hl => n3 b hl b hb rfl⟩
  have hheap : ∀ b ∈ keys pre, w'.heap[b]? = w.heap[b]? := fun b hb => h.keep b (hpre b hb).1 (hpre b hb).2
  refine ⟨⟨h.inv.imm, ?_, ?_, ?_⟩, h.os.trans hs.os, h.tape.trans hs.tape, h.output.trans hs.output, Nat.le_trans hs.size h.size, ?_, hs.le.trans h.le, ?_, ?_⟩
  · intro p hp
    simp only [List.flatten_append, List.mem_append] at hp
    rcases hp with hp | hp
    · exact h.inv.mine p hp
    · rw [hheap _ (mem_keys.2 ⟨p.2, hp⟩)]
      exact hs.inv.mine p (by simp only [List.flatten_append, List.mem_append]; exact .inr hp)
  · intro p hp
    simp only [List.flatten_append, List.mem_append] at hp
    rcases hp with hp | hp
    · exact h.inv.dis p hp
    · have hk := hpre p.1 (mem_keys.2 ⟨p.2, hp⟩)
      cases hm : m' p.1 with
      | none => rfl
      | some o =>
        rcases h.newm p.1 (by rw [hm]; simp) with hx | hx | hx
        · exact absurd (hs.inv.dis p (by simp only [List.flatten_append, List.mem_append]; exact .inr hp)) hx
        · exact absurd hx hk.2
        · simp only at hx; omega
  · rw [keys_app, List.nodup_append]
    refine ⟨h.inv.nd, n2, ?_⟩
    rintro a ha b hb rfl
    rcases h.newo a ha with hx | hx
    · exact (hpre a hb).2 hx
    · have := (hpre a hb).1; simp only at hx; omega
  · intro b hb hn
    by_cases hl : b ∈ keys lent
    · rcases hs.newo b (by rw [keys_app]; exact List.mem_append_left _ hl) with hx | hx
      · exact absurd hx hn
      · omega
    · rw [h.keep b (Nat.lt_of_lt_of_le hb hs.size) hl]; exact hs.keep b hb hn
  · intro b hb
    rcases h.newm b hb with hx | hx | hx
    · exact hs.newm b hx
    · rcases hs.newo b (by rw [keys_app]; exact List.mem_append_left _ hx) with hy | hy
      · exact .inr (.inl hy)
      · exact .inr (.inr hy)
    · exact .inr (.inr (Nat.le_trans hs.size hx))
  · intro b hb
    rw [keys_app] at hb
    rcases List.mem_append.1 hb with hb | hb
    · rcases h.newo b hb with hx | hx
      · exact hs.newo b (by rw [keys_app]; exact List.mem_append_left _ hx)
      · exact .inr (Nat.le_trans hs.size hx)
    · exact hs.newo b (by rw [keys_app]; exact List.mem_append_right _ hb)

theorem Ent.St.part {Γ : Ent} {w : World} {lent pre : Own} (hs : Γ.St m (lent ++ pre) w) : Inv m lent w :=
  ⟨hs.inv.imm, fun p hp => hs.inv.mine p (by simp only [List.flatten_append, List.mem_append]; exact .inl hp), fun p hp => hs.inv.dis p (by simp only [List.flatten_append, List.mem_append]; exact .inl hp), by
    have := hs.inv.nd
    rw [keys_app, List.nodup_append] at this
    exact this.1⟩

/-- Which own bundles are lent, and what is left. -/
inductive Lend : Own → Own → Own → Prop
  | none {o : Own} : Lend o [] o
  | here {x : Bun} {o l r : Own} (h : Lend o l r) : Lend (x :: o) (x :: l) r
  | there {x : Bun} {o l r : Own} (h : Lend o l r) : Lend (x :: o) l (x :: r)
theorem Lend.perm {o l r : Own} (h : Lend o l r) : (l ++ r).flatten.Perm o.flatten := by
  induction h with
  | none => exact List.Perm.refl _
  | here _ ih => simp only [List.cons_append, List.flatten_cons]; exact List.Perm.append_left _ ih
  | @there x o l r _ ih =>
    simp only [List.flatten_append, List.flatten_cons] at ih ⊢
    refine List.Perm.trans ?_ (List.Perm.append_left x ih)
    rw [← List.append_assoc, ← List.append_assoc]
    exact List.Perm.append_right _ List.perm_append_comm
theorem Ent.St.perm {Γ : Ent} {w : World} (h : Γ.St m own w) (hp : own'.flatten.Perm own.flatten) : Γ.St m own' w :=
  ⟨⟨h.inv.imm, fun p hq => h.inv.mine p (hp.subset hq), fun p hq => h.inv.dis p (hp.subset hq), ((hp.map _).nodup_iff).2 h.inv.nd⟩,
   h.os, h.tape, h.output, h.size, h.keep, h.le, h.newm, fun b hb => h.newo b ((hp.map (·.1)).subset hb)⟩

/-- A call by a contract over memory: 'lent' goes in, 'back' comes back. -/
theorem WL.call {c : Operand} {args : Array Operand} {tys : Array TypeId} {f : FuncId} {vs : List Value} {lent : Own} {Φ : Value → Imm → Own → Prop} {first captured : Array Value} (hp : Tr P f vs m lent Φ) [hF : IsFn P f] (hd : Nat.blt d n = true)
    (hc : ev ρ c = .func (.func f) first captured) (ha : first.toList ++ args.toList.map (ev ρ) ++ captured.toList = vs) (hl : Lend own lent own')
    (h : ∀ v m' back, Le m m' → Φ v m' back → WL P E n ds m' (back ++ own') (upd ρ d v) ops rest ks) :
    WL P E n ds m own ρ ops (⟨some d, .call ⟨.value c, args, tys⟩, ty, pos, af, none⟩ :: rest) ks := by
  intro a w hf hs
  have hs' := hs.perm hl.perm
  refine wpl_plain rfl ⟨fun _ _ => trivial, ?_⟩
  rw [Oper.semAt_eq _ _ _ (by simp), hf.eval, run_callValue hc]
  refine ⟨by simp [fw], calls_fw ?_⟩
  rw [args_eq ha]
  refine (hp w hs'.part).mono ?_
  rintro e w' ⟨v, m', back, rfl, hΦ, st⟩
  exact h v m' back st.le hΦ _ _ (hf.put hd _) (hs'.grown st)

/-- A contract of a function that reads what R tells of memory and computes a plain value. -/
def Pm (P : Program) (f : FuncId) (args : List Value) (R : Nat → Obj → Prop) (v : Value) : Prop :=
  ∀ w, (∀ b o, R b o → w.heap[b]? = some o) → Calls P f args.toArray w fun e w' => e = .returned v ∧ Grew w w'
theorem Pu.pm {f : FuncId} {vs : List Value} {v : Value} (h : Pu P f vs v) (R : Nat → Obj → Prop) : Pm P f vs R v := fun w _ => h w
theorem Pm.of {f : FuncId} {fn : Func} {c : Code} {args : List Value} {v : Value} {R : Nat → Obj → Prop} {n : Nat} (hf : P.funcs[f]? = some fn) (hn : fn.ntmps = n) (hb : fn.body = some c) (hk : Nat.ble args.length n = true)
    (h : ∀ (m : Imm) w, (∀ b o, R b o → m b = some o) → WK P ⟨P, none, ⟨w, m, []⟩, retPost P fn ⟨w, m, []⟩ fun u _ _ => u = v⟩ n [] m [] (entry args) .normal [.code c]) : Pm P f args R v := by
  intro w hR
  have ht : Tr P f args (fun b => w.heap[b]?) [] fun u _ _ => u = v := by
    have hT := @Tr.of P f fn c args (fun b => w.heap[b]?) [] (fun u _ _ => u = v) n hf hn hb hk
    intro w1 hi
    exact hT (fun w2 => h _ w2 hR) w1 hi
  refine (ht w ⟨fun _ _ h => h, fun _ h => (by cases h), fun _ h => (by cases h), List.nodup_nil⟩).mono ?_
  rintro e w' ⟨u, m', own', rfl, rfl, st⟩
  exact ⟨rfl, st.os, st.tape, st.output, st.size, fun b hb => st.keep b hb (by simp [keys])⟩
theorem WL.callm {c : Operand} {args : Array Operand} {tys : Array TypeId} {f : FuncId} {vs : List Value} {v : Value} {first captured : Array Value} (hp : Pm P f vs (Rd m own) v) [hF : IsFn P f] (hd : Nat.blt d n = true)
    (hc : ev ρ c = .func (.func f) first captured) (ha : first.toList ++ args.toList.map (ev ρ) ++ captured.toList = vs) (h : WL P E n ds m own (upd ρ d v) ops rest ks) :
    WL P E n ds m own ρ ops (⟨some d, .call ⟨.value c, args, tys⟩, ty, pos, af, none⟩ :: rest) ks := by
  intro a w hf hs
  refine wpl_plain rfl ⟨fun _ _ => trivial, ?_⟩
  rw [Oper.semAt_eq _ _ _ (by simp), hf.eval, run_callValue hc]
  refine ⟨by simp [fw], calls_fw ?_⟩
  rw [args_eq ha]
  refine (hp w fun b o hr => hs.rd hr).mono ?_
  rintro e w' ⟨rfl, g⟩
  exact h _ _ (hf.put hd _) (hs.grew g)
end
end Go.SL
