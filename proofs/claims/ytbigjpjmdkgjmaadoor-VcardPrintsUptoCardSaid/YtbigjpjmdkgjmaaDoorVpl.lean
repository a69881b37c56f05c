/- A card's text, in plain Lean: how a property is written, a card's lines; how long they are. -/
import Derived.Test.YtbigjpjmdkgjmaaDoorSixE
import Derived.Test.YtbigjpjmdkgjmaaDoorPlain
namespace Go.SL
open Go
set_option linter.unusedVariables false
set_option linter.unusedSimpArgs false

/-! ## Pieces -/
theorem pieces_nil (w n : Nat) : pieces w n [] = [] := by cases n <;> simp [pieces]
theorem pieces_fuel {w : Nat} (hw : 1 ≤ w) : ∀ (n k : Nat) (s : List UInt8), s.length ≤ n → s.length ≤ k → pieces w n s = pieces w k s
  | 0, k, s, h, _ => by
    have : s = [] := List.eq_nil_of_length_eq_zero (by omega)
    subst this; rw [pieces_nil, pieces_nil]
  | n + 1, 0, s, _, h => by
    have : s = [] := List.eq_nil_of_length_eq_zero (by omega)
    subst this; rw [pieces_nil, pieces_nil]
  | n + 1, k + 1, s, h1, h2 => by
    simp only [pieces]
    by_cases h : w < s.length
    · rw [if_pos h, if_pos h, pieces_fuel hw n k (s.drop w) (by rw [List.length_drop]; omega) (by rw [List.length_drop]; omega)]
    · rw [if_neg h, if_neg h]
theorem pieces_step {w n k : Nat} {s : List UInt8} (hw : 1 ≤ w) (hne : s ≠ []) (h1 : s.length ≤ n) (h2 : (s.drop w).length ≤ k) : pieces w n s = s.take w :: pieces w k (s.drop w) := by
  cases n with
  | zero => exact absurd (List.eq_nil_of_length_eq_zero (by omega)) hne
  | succ n =>
    simp only [pieces]
    by_cases h : w < s.length
    · rw [if_pos h, pieces_fuel hw n k (s.drop w) (by rw [List.length_drop]; omega) h2]
    · rw [if_neg h, if_neg hne, List.drop_eq_nil_of_le (by omega), pieces_nil, List.take_of_length_le (by omega)]
def wrapL (s : List UInt8) : List UInt8 := (pieces 60 s.length s).flatMap (32 :: ·)
theorem wrap_step {s X t : List UInt8} (hne : t ≠ []) (h : X ++ (pieces 60 t.length t).flatMap (32 :: ·) = wrapL s) : (X ++ 32 :: t.take 60) ++ (pieces 60 (t.drop 60).length (t.drop 60)).flatMap (32 :: ·) = wrapL s := by
  rw [pieces_step (by decide) hne (Nat.le_refl _) (Nat.le_refl _), List.flatMap_cons] at h
  rw [List.append_assoc]
  exact h
theorem pieces_flat {w : Nat} : ∀ (n : Nat) (s : List UInt8), (pieces w n s).flatten = s
  | 0, s => by simp only [pieces]; split <;> simp_all
  | n + 1, s => by
    simp only [pieces]
    split
    · rw [List.flatten_cons, pieces_flat n, List.take_append_drop]
    · split <;> simp_all
theorem pieces_ne {w : Nat} (hw : 1 ≤ w) : ∀ (n : Nat) (s : List UInt8), ∀ p ∈ pieces w n s, p ≠ []
  | 0, s, p, hp => by simp only [pieces] at hp; split at hp <;> simp_all
  | n + 1, s, p, hp => by
    simp only [pieces] at hp
    split at hp
    · rename_i h
      rcases List.mem_cons.1 hp with rfl | hp
      · intro e
        have := congrArg List.length e
        rw [List.length_take, List.length_nil] at this
        omega
      · exact pieces_ne hw n _ p hp
    · split at hp <;> simp_all
theorem flat_cons_le : ∀ l : List (List UInt8), (∀ p ∈ l, p ≠ []) → (l.flatMap (32 :: ·)).length ≤ 2 * l.flatten.length ∧ l.length ≤ l.flatten.length
  | [], _ => by simp
  | p :: l, h => by
    have ih := flat_cons_le l fun q hq => h q (List.mem_cons_of_mem _ hq)
    have hp := List.length_pos_iff.2 (h p (List.mem_cons_self ..))
    rw [List.flatMap_cons, List.flatten_cons]
    simp only [List.length_append, List.length_cons]
    omega
theorem wrapL_len (s : List UInt8) : (wrapL s).length ≤ 2 * s.length := by
  have h := (flat_cons_le (pieces 60 s.length s) (pieces_ne (by decide) _ _)).1
  rw [pieces_flat] at h
  exact h
theorem pieces_len (s : List UInt8) : (pieces 60 s.length s).length ≤ s.length := by
  have h := (flat_cons_le (pieces 60 s.length s) (pieces_ne (by decide) _ _)).2
  rw [pieces_flat] at h
  exact h

/-! ## How a property is written -/
def Asc (l : List UInt8) : Prop := ∀ c ∈ l, c.toNat < 128
theorem Asc.plain {l : List UInt8} (h : plainB l = true) : Asc l := by
  intro c hc
  have := List.all_eq_true.1 h c hc
  simp at this; omega
theorem hexD_asc : ∀ n : Fin 16, (hexD n.val).toNat < 128 := by decide
theorem Asc.quo : ∀ l : List UInt8, Asc (qEnc l)
  | [] => by intro c hc; simp [qEnc] at hc
  | c :: l => by
    intro x hx
    rw [qEnc] at hx
    rcases List.mem_append.1 hx with hx | hx
    · split at hx
      · rename_i h
        obtain rfl := List.mem_singleton.1 hx
        simp [qOk] at h
        omega
      · rcases List.mem_cons.1 hx with rfl | hx
        · decide
        · have hlt := c.toNat_lt
          simp only [hexL, List.mem_cons, List.mem_nil_iff, or_false] at hx
          rcases hx with rfl | rfl
          · exact hexD_asc ⟨c.toNat / 16, by omega⟩
          · exact hexD_asc ⟨c.toNat % 16, by omega⟩
    · exact Asc.quo l x hx
theorem alpha_asc (n : Nat) : (alphaL.getD n 0).toNat < 128 := by
  have h : ∀ c ∈ alphaL, c.toNat < 128 := by decide
  rw [List.getD_eq_getElem?_getD]
  cases hc : alphaL[n]? with
  | none => decide
  | some c => exact h c (List.mem_of_getElem? hc)
theorem ch4_asc (s : List UInt8) (i k : Nat) : (ch4 s i k).toNat < 128 := by
  unfold ch4; split
  · decide
  · exact alpha_asc _
theorem Asc.app {a b : List UInt8} (h : Asc a) (k : Asc b) : Asc (a ++ b) := fun c hc => (List.mem_append.1 hc).elim (h c) (k c)
theorem Asc.nil : Asc [] := fun _ h => by cases h
theorem enc4_asc (s : List UInt8) (i : Nat) : ∀ k, Asc (enc4 s i k)
  | 0 => Asc.nil
  | k + 1 => (enc4_asc s i k).app fun c hc => by obtain rfl := List.mem_singleton.1 hc; exact ch4_asc _ _ _
theorem encTo_asc (s : List UInt8) : ∀ q, Asc (encTo s q)
  | 0 => Asc.nil
  | q + 1 => (encTo_asc s q).app (enc4_asc _ _ _)
theorem wrapL_asc {s : List UInt8} (h : Asc s) : Asc (wrapL s) := by
  intro c hc
  obtain ⟨p, hp, hc⟩ := List.mem_flatMap.1 hc
  rcases List.mem_cons.1 hc with rfl | hc
  · decide
  · refine h c ?_
    rw [← pieces_flat (w := 60) s.length s]
    exact List.mem_flatten.2 ⟨p, hp, hc⟩

def csP : Par := ([67, 72, 65, 82, 83, 69, 84], [85, 84, 70, 45, 56])
def qpP : Par := ([69, 78, 67, 79, 68, 73, 78, 71], [81, 85, 79, 84, 69, 68, 45, 80, 82, 73, 78, 84, 65, 66, 76, 69])
def b6P : Par := ([69, 78, 67, 79, 68, 73, 78, 71], [66, 65, 83, 69, 54, 52])
def b64 (s : List UInt8) : List UInt8 := wrapL (encTo s ((s.length + 2) / 3))
def rawPs (h : Hd) : List Par := if plainB h.v then h.ps else if Lib.validD h.v then h.ps ++ [csP, qpP] else h.ps ++ [b6P]
def rawV (h : Hd) : List UInt8 := if plainB h.v then h.v else if Lib.validD h.v then qEnc h.v else b64 h.v
theorem rawV_asc (h : Hd) : Asc (rawV h) := by
  unfold rawV
  split
  · rename_i e; exact Asc.plain e
  · split
    · exact Asc.quo _
    · exact wrapL_asc (encTo_asc _ _)
theorem rawV_len (h : Hd) : (rawV h).length ≤ 3 * h.v.length + 6 := by
  unfold rawV
  split
  · omega
  · split
    · have := qEnc_len h.v; omega
    · have h1 := wrapL_len (encTo h.v ((h.v.length + 2) / 3))
      rw [encTo_len] at h1
      unfold b64; omega
theorem rawPs_mem {h : Hd} {p : Par} (hp : p ∈ rawPs h) : p ∈ h.ps ∨ (p.1.length ≤ 32 ∧ p.2.length ≤ 32) := by
  unfold rawPs at hp
  split at hp
  · exact .inl hp
  · split at hp
    · rcases List.mem_append.1 hp with hp | hp
      · exact .inl hp
      · simp only [List.mem_cons, List.mem_nil_iff, or_false] at hp
        rcases hp with rfl | rfl <;> exact .inr (by decide)
    · rcases List.mem_append.1 hp with hp | hp
      · exact .inl hp
      · simp only [List.mem_cons, List.mem_nil_iff, or_false] at hp
        rcases hp with rfl; exact .inr (by decide)
theorem rawPs_len (h : Hd) : (rawPs h).length ≤ h.ps.length + 2 := by
  unfold rawPs
  split
  · omega
  · split <;> simp
def lineOf (h : Hd) : List UInt8 := if chkProp h.g h.n (rawPs h) (rawV h) 0 = 0 then propLine h.g h.n (rawPs h) (rawV h) else []

/-! ## A card's lines -/
def beginL : List UInt8 := [66, 69, 71, 73, 78, 58, 86, 67, 65, 82, 68]
def versionL : List UInt8 := [86, 69, 82, 83, 73, 79, 78, 58, 50, 46, 49]
def endL : List UInt8 := [69, 78, 68, 58, 86, 67, 65, 82, 68]
def foldP (h : Hd) : List (List UInt8) := foldL 75 (lineOf h).length (lineOf h)
def cardL : Nat → Crd → List (List UInt8)
  | 0, _ => []
  | d + 1, c => [beginL, versionL] ++ c.props.flatMap (fun p => foldP p.1 ++ p.2.flatMap (cardL d)) ++ [endL]
theorem nameOk_len {s : List UInt8} (h : nameOk s = true) : s.length ≤ 32 := by
  simp only [nameOk, Bool.and_eq_true, decide_eq_true_eq] at h; omega
theorem valOk_len {s : List UInt8} (h : valOk s = true) : s.length ≤ 32 := by
  simp only [valOk, Bool.and_eq_true, decide_eq_true_eq] at h; omega
theorem parOk_len {p : Par} (h : parOk p = true) : p.1.length ≤ 32 ∧ p.2.length ≤ 32 := by
  simp only [parOk, Bool.and_eq_true, Bool.or_eq_true, decide_eq_true_eq] at h
  exact ⟨h.1.elim (fun e => by rw [e]; simp) nameOk_len, valOk_len h.2⟩
theorem chkProp_ok {g n v : List UInt8} {ps : List Par} {al : Nat} (h : chkProp g n ps v al = 0) : g.length ≤ 32 ∧ n.length ≤ 32 ∧ ps.length ≤ 6 ∧ (∀ p ∈ ps, p.1.length ≤ 32 ∧ p.2.length ≤ 32) ∧ v.length ≤ 2400 := by
  unfold chkProp at h
  split at h
  · omega
  rename_i h1
  split at h
  · omega
  rename_i h2
  split at h
  · omega
  rename_i h3
  split at h
  · omega
  split at h
  · omega
  rename_i h5
  simp only [Bool.not_eq_true, Bool.or_eq_false_iff, Bool.and_eq_false_iff, Bool.not_eq_false', decide_eq_true_eq] at h1
  simp only [Bool.not_eq_true, Bool.not_eq_false'] at h3
  simp at h2 h5
  refine ⟨h1.1.elim (fun e => by rw [e]; simp) nameOk_len, nameOk_len h1.2, by omega, fun p hp => parOk_len (List.all_eq_true.1 h3 p hp), by omega⟩
theorem propLine_len {g n v : List UInt8} {ps : List Par} (h : chkProp g n ps v 0 = 0) : (propLine g n ps v).length ≤ 3000 := by
  obtain ⟨h1, h2, h3, h4, h5⟩ := chkProp_ok h
  have h6 := parLines_le (B := 32) h4
  have h7 : ps.length * (2 * 32 + 2) ≤ 6 * (2 * 32 + 2) := Nat.mul_le_mul_right _ h3
  unfold propLine
  split <;> simp only [List.length_append, List.length_cons, List.length_nil] <;> omega
theorem lineOf_len (h : Hd) : (lineOf h).length ≤ 3000 := by
  unfold lineOf
  split
  · rename_i e; exact propLine_len e
  · simp
theorem foldL_len (w : Nat) : ∀ (n : Nat) (s : List UInt8), s.length ≤ n → (foldL w n s).length ≤ s.length + 1 ∧ (foldL w n s).flatten = s
  | 0, s, h => by simp [foldL]
  | n + 1, s, h => by
    simp only [foldL]
    split
    · split
      · simp
      · rename_i h1 h2
        have hb := cutAt_bd w s
        have ih := foldL_len w n (s.drop (cutAt w s).toNat) (by rw [List.length_drop]; omega)
        rw [List.length_drop] at ih
        refine ⟨by rw [List.length_cons]; omega, by rw [List.flatten_cons, ih.2, List.take_append_drop]⟩
    · simp
theorem joinL_len (l : List (List UInt8)) : (joinL l).length = l.flatten.length + 2 * l.length := by
  induction l with
  | nil => rfl
  | cons x l ih =>
    have e : joinL (x :: l) = (x ++ [13, 10]) ++ joinL l := rfl
    rw [e, List.flatten_cons]
    simp only [List.length_append, List.length_cons, List.length_nil, ih]; omega
theorem joinL_app (a b : List (List UInt8)) : joinL (a ++ b) = joinL a ++ joinL b := by simp [joinL]
theorem foldP_len (h : Hd) : (foldP h).length ≤ 3001 ∧ (joinL (foldP h)).length ≤ 9002 := by
  have h1 := lineOf_len h
  have h2 := foldL_len 75 (lineOf h).length (lineOf h) (Nat.le_refl _)
  rw [joinL_len]
  unfold foldP
  rw [h2.2]; omega
/-- What a checked card has. -/
theorem chkOne_ok {h : Hd} {al : Nat} (e : chkOne h al = 0) : chkProp h.g h.n h.ps [] 0 = 0 ∧ h.ps.length ≤ 4 ∧ h.v.length ≤ 600 ∧ al ≤ 1 := by
  unfold chkOne at e
  split at e
  · rename_i h1; simp at h1; omega
  rename_i h1
  split at e
  · omega
  rename_i h2
  split at e
  · omega
  split at e
  · omega
  split at e
  · omega
  rename_i h5
  split at e
  · omega
  rename_i h6
  split at e
  · omega
  rename_i h7
  simp at h1 h2 h5 h6 h7
  refine ⟨h1, by omega, by omega, ?_⟩
  by_cases hn : h.n = agentN
  · have := (h6 hn).1; omega
  · have := h7 hn; omega
def CrdOk (f : Crd → Prop) (c : Crd) : Prop := c.props.length ≤ 24 ∧ ∀ p ∈ c.props, chkOne p.1 p.2.length = 0 ∧ p.2.length ≤ 1 ∧ ∀ a ∈ p.2, f a
theorem chkPs_ok {f : Crd → Int} : ∀ {l : List (Hd × List Crd)}, chkPs f l = 0 → ∀ p ∈ l, chkOne p.1 p.2.length = 0 ∧ p.2.length ≤ 1 ∧ ∀ a ∈ p.2, f a = 0
  | [], _, p, hp => by cases hp
  | q :: l, h, p, hp => by
    rw [chkPs] at h
    split at h
    · rename_i h1; simp at h1; omega
    rename_i h1
    split at h
    · rename_i h2; simp at h2; omega
    rename_i h2
    simp at h1 h2
    rcases List.mem_cons.1 hp with rfl | hp
    · have h3 := (chkOne_ok h1).2.2.2
      refine ⟨h1, h3, fun a ha => ?_⟩
      match hq : p.2, ha, h2, h3 with
      | [b], ha, h2, _ => obtain rfl := List.mem_singleton.1 ha; exact h2
      | b :: b' :: r, _, _, h3 => simp at h3
    · exact chkPs_ok h p hp
theorem chkC_ok {d : Nat} {c : Crd} (h : chkC (d + 1) c = 0) : CrdOk (fun a => chkC d a = 0) c := by
  rw [chkC] at h
  split at h
  · omega
  rename_i h1
  simp at h1
  exact ⟨by omega, chkPs_ok h⟩
def capN : Nat → Nat
  | 0 => 0
  | d + 1 => 24 * (10000 + capN d) + 100
theorem flatMap_le {α β : Type} {f : α → List β} {B : Nat} : ∀ (l : List α), (∀ a ∈ l, (f a).length ≤ B) → (l.flatMap f).length ≤ l.length * B
  | [], _ => by simp
  | a :: l, h => by
    have h1 := h a (List.mem_cons_self ..)
    have ih := flatMap_le l fun b hb => h b (List.mem_cons_of_mem _ hb)
    rw [List.flatMap_cons, List.length_append, List.length_cons, Nat.add_mul, Nat.one_mul]; omega
theorem joinL_flat {α : Type} (f : α → List (List UInt8)) (l : List α) : joinL (l.flatMap f) = l.flatMap fun a => joinL (f a) := by
  induction l with
  | nil => rfl
  | cons a l ih => rw [List.flatMap_cons, joinL_app, ih, List.flatMap_cons]
theorem cardL_len : ∀ (d : Nat) (c : Crd), chkC d c = 0 → (joinL (cardL d c)).length ≤ capN d
  | 0, _, _ => by simp [cardL, joinL]
  | d + 1, c, h => by
    obtain ⟨h1, h2⟩ := chkC_ok h
    rw [cardL, joinL_app, joinL_app, joinL_flat, List.length_append, List.length_append]
    have h3 := flatMap_le (B := 10000 + capN d) (f := fun p : Hd × List Crd => joinL (foldP p.1 ++ p.2.flatMap (cardL d))) c.props (by
      intro p hp
      obtain ⟨_, h4, h5⟩ := h2 p hp
      show (joinL (foldP p.1 ++ p.2.flatMap (cardL d))).length ≤ _
      rw [joinL_app, joinL_flat, List.length_append]
      have h6 := (foldP_len p.1).2
      have h7 := flatMap_le (B := capN d) (f := fun a => joinL (cardL d a)) p.2 (fun a ha => cardL_len d a (h5 a ha))
      have h8 : p.2.length * capN d ≤ 1 * capN d := Nat.mul_le_mul_right _ h4
      omega)
    have h9 : c.props.length * (10000 + capN d) ≤ 24 * (10000 + capN d) := Nat.mul_le_mul_right _ h1
    have e1 : (joinL [beginL, versionL]).length ≤ 50 := by decide
    have e2 : (joinL [endL]).length ≤ 50 := by decide
    simp only [capN]
    omega
end Go.SL
