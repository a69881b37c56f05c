/- UTF-8: the reference's letter by letter, and Go's utf8.ValidString: contracts. -/
import Derived.Test.YtbigjpjmdkgjmaaDoorQuo
import Derived.Test.YtbigjpjmdkgjmaaDoorShelf
import Derived.Lib.MapLaws
namespace Go.SL
open Go Go.Proofs
set_option linter.unusedVariables false
set_option linter.unusedSimpArgs false

/-- The letter at a text's beginning, and how many bytes it has; (0, 0): it is none. -/
def oneL (s : List UInt8) : Nat × Nat := if s = [] then (0, 0) else if (Lib.decodeL s).1 = 65533 ∧ (Lib.decodeL s).2 = 1 then (0, 0) else Lib.decodeL s
def byteAt (s : List UInt8) (k : Nat) : Nat := (s.getD k 0).toNat
theorem byteAt_lt (s : List UInt8) (k : Nat) : byteAt s k < 256 := (s.getD k 0).toNat_lt
theorem byteAt_get {s : List UInt8} {k : Nat} (h : k < s.length) : s[k]? = some s[k] ∧ (s[k]).toNat = byteAt s k := by
  simp [byteAt, h]
def xAt (x0 : Nat) (s : List UInt8) : Nat → Nat
  | 0 => x0
  | k + 1 => 64 * xAt x0 s k + byteAt s (k + 1) % 64
theorem xAt_lt {x0 : Nat} (h : x0 < 32) (s : List UInt8) : ∀ k, xAt x0 s k < 32 * 64 ^ k
  | 0 => by simpa [xAt] using h
  | k + 1 => by
    have ih := xAt_lt h s k
    simp only [xAt, Nat.pow_succ]
    omega
/-- A first byte's kind: how many bytes; what is kept of it; the least letter. -/
def Kind3 (b n x0 least : Nat) : Prop := (b / 32 = 6 ∧ n = 2 ∧ x0 = b % 32 ∧ least = 128) ∨ (b / 16 = 14 ∧ n = 3 ∧ x0 = b % 16 ∧ least = 2048) ∨ (b / 8 = 30 ∧ n = 4 ∧ x0 = b % 8 ∧ least = 65536)
theorem oneL_short {s : List UInt8} (hne : s ≠ []) {n x0 least : Nat} (hk : Kind3 (byteAt s 0) n x0 least) (h : s.length < n ∨ ∃ j, 1 ≤ j ∧ j < n ∧ byteAt s j / 64 ≠ 2) : oneL s = (0, 0) := by
  have hl : 0 < s.length := List.length_pos_iff.2 hne
  rw [oneL, if_neg hne, Lib.decodeL_N]
  have e : Lib.decodeN s.length (byteAt s 0) (byteAt s 1) (byteAt s 2) (byteAt s 3) = (65533, 1) := by
    have cases : (byteAt s 0 / 32 = 6 ∧ ¬ (1 < s.length ∧ byteAt s 1 / 64 = 2)) ∨ (byteAt s 0 / 16 = 14 ∧ ¬ ((1 < s.length ∧ byteAt s 1 / 64 = 2) ∧ (2 < s.length ∧ byteAt s 2 / 64 = 2))) ∨
        (byteAt s 0 / 8 = 30 ∧ ¬ ((1 < s.length ∧ byteAt s 1 / 64 = 2) ∧ (2 < s.length ∧ byteAt s 2 / 64 = 2) ∧ (3 < s.length ∧ byteAt s 3 / 64 = 2))) := by
      rcases hk with ⟨h1, rfl, _, _⟩ | ⟨h1, rfl, _, _⟩ | ⟨h1, rfl, _, _⟩
      · refine .inl ⟨h1, fun ⟨g1, g2⟩ => ?_⟩
        rcases h with h | ⟨j, h2, h3, h4⟩
        · omega
        · obtain rfl : j = 1 := by omega
          exact h4 g2
      · refine .inr (.inl ⟨h1, fun ⟨⟨g1, g2⟩, g3, g4⟩ => ?_⟩)
        rcases h with h | ⟨j, h2, h3, h4⟩
        · omega
        · rcases (show j = 1 ∨ j = 2 by omega) with rfl | rfl
          · exact h4 g2
          · exact h4 g4
      · refine .inr (.inr ⟨h1, fun ⟨⟨g1, g2⟩, ⟨g3, g4⟩, g5, g6⟩ => ?_⟩)
        rcases h with h | ⟨j, h2, h3, h4⟩
        · omega
        · rcases (show j = 1 ∨ j = 2 ∨ j = 3 by omega) with rfl | rfl | rfl
          · exact h4 g2
          · exact h4 g4
          · exact h4 g6
    unfold Lib.decodeN
    rcases cases with ⟨h1, h2⟩ | ⟨h1, h2⟩ | ⟨h1, h2⟩
    · rw [if_neg (by omega), if_neg (fun h => h2 h.2), if_neg (by omega), if_neg (by omega)]
    · rw [if_neg (by omega), if_neg (by omega), if_neg (fun h => h2 h.2), if_neg (by omega)]
    · rw [if_neg (by omega), if_neg (by omega), if_neg (by omega), if_neg (fun h => h2 h.2)]
  simp only [byteAt] at e
  rw [e]; rfl
theorem oneL_whole {s : List UInt8} (hne : s ≠ []) {n x0 least : Nat} (hk : Kind3 (byteAt s 0) n x0 least) (hn : n ≤ s.length) (hc : ∀ j, 1 ≤ j → j < n → byteAt s j / 64 = 2) :
    oneL s = if xAt x0 s (n - 1) < least ∨ (55296 ≤ xAt x0 s (n - 1) ∧ xAt x0 s (n - 1) < 57344) ∨ 1114111 < xAt x0 s (n - 1) then (0, 0) else (xAt x0 s (n - 1), n) := by
  rw [oneL, if_neg hne, Lib.decodeL_N]
  have e : ∀ r, Lib.decodeN s.length (byteAt s 0) (byteAt s 1) (byteAt s 2) (byteAt s 3) = r → (if (r.1 = 65533 ∧ r.2 = 1) then (0, 0) else r) = if xAt x0 s (n - 1) < least ∨ (55296 ≤ xAt x0 s (n - 1) ∧ xAt x0 s (n - 1) < 57344) ∨ 1114111 < xAt x0 s (n - 1) then (0, 0) else (xAt x0 s (n - 1), n) := by
    rintro r rfl
    have b1 := byteAt_lt s 1
    have b2 := byteAt_lt s 2
    have b3 := byteAt_lt s 3
    have fin : ∀ (x y n least : Nat), n ≠ 1 → x = y → ∀ c : Prop, ∀ _ : Decidable c, (c ↔ ¬ (y < least ∨ (55296 ≤ y ∧ y < 57344) ∨ 1114111 < y)) →
        (if ((if c then (x, n) else (65533, 1) : Nat × Nat).1 = 65533 ∧ (if c then (x, n) else (65533, 1) : Nat × Nat).2 = 1) then (0, 0) else (if c then (x, n) else (65533, 1) : Nat × Nat)) = if y < least ∨ (55296 ≤ y ∧ y < 57344) ∨ 1114111 < y then (0, 0) else (y, n) := by
      intro x y n least hn hxy c hc hiff
      subst hxy
      by_cases h : c
      · rw [if_pos h, if_neg (fun h => hn h.2), if_neg (hiff.1 h)]
      · rw [if_neg h, if_pos ⟨rfl, rfl⟩, if_pos (Decidable.byContradiction fun h2 => h (hiff.2 h2))]
    have fin : ∀ (d : Nat × Nat) (x y n least : Nat), n ≠ 1 → x = y → ∀ c : Prop, ∀ _ : Decidable c, d = (if c then (x, n) else (65533, 1)) → (c ↔ ¬ (y < least ∨ (55296 ≤ y ∧ y < 57344) ∨ 1114111 < y)) →
        (if (d.1 = 65533 ∧ d.2 = 1) then (0, 0) else d) = if y < least ∨ (55296 ≤ y ∧ y < 57344) ∨ 1114111 < y then (0, 0) else (y, n) := by
      intro d x y n least hn hxy c hc hd hiff
      rw [hd]
      exact fin x y n least hn hxy c hc hiff
    rcases hk with ⟨h1, rfl, rfl, rfl⟩ | ⟨h1, rfl, rfl, rfl⟩ | ⟨h1, rfl, rfl, rfl⟩
    · have c1 := hc 1 (by omega) (by omega)
      simp only [xAt, Nat.reduceSub, Nat.reduceAdd]
      refine fin _ (byteAt s 0 % 32 * 64 + byteAt s 1 % 64) _ _ _ (by decide) (by omega) (byteAt s 0 % 32 * 64 + byteAt s 1 % 64 ≥ 128) inferInstance ?_ ?_
      · unfold Lib.decodeN
        rw [if_neg (by omega), if_pos ⟨h1, by omega, c1⟩]
      · omega
    · have c1 := hc 1 (by omega) (by omega)
      have c2 := hc 2 (by omega) (by omega)
      simp only [xAt, Nat.reduceSub, Nat.reduceAdd]
      refine fin _ (byteAt s 0 % 16 * 4096 + byteAt s 1 % 64 * 64 + byteAt s 2 % 64) _ _ _ (by decide) (by omega) (byteAt s 0 % 16 * 4096 + byteAt s 1 % 64 * 64 + byteAt s 2 % 64 ≥ 2048 ∧ (byteAt s 0 % 16 * 4096 + byteAt s 1 % 64 * 64 + byteAt s 2 % 64 < 55296 ∨ (57344 ≤ byteAt s 0 % 16 * 4096 + byteAt s 1 % 64 * 64 + byteAt s 2 % 64 ∧ byteAt s 0 % 16 * 4096 + byteAt s 1 % 64 * 64 + byteAt s 2 % 64 ≤ 1114111))) inferInstance ?_ ?_
      · unfold Lib.decodeN
        rw [if_neg (by omega), if_neg (by omega), if_pos ⟨h1, ⟨by omega, c1⟩, by omega, c2⟩]
      · omega
    · have c1 := hc 1 (by omega) (by omega)
      have c2 := hc 2 (by omega) (by omega)
      have c3 := hc 3 (by omega) (by omega)
      simp only [xAt, Nat.reduceSub, Nat.reduceAdd]
      refine fin _ (byteAt s 0 % 8 * 262144 + byteAt s 1 % 64 * 4096 + byteAt s 2 % 64 * 64 + byteAt s 3 % 64) _ _ _ (by decide) (by omega) (byteAt s 0 % 8 * 262144 + byteAt s 1 % 64 * 4096 + byteAt s 2 % 64 * 64 + byteAt s 3 % 64 ≥ 65536 ∧ (byteAt s 0 % 8 * 262144 + byteAt s 1 % 64 * 4096 + byteAt s 2 % 64 * 64 + byteAt s 3 % 64 < 55296 ∨ (57344 ≤ byteAt s 0 % 8 * 262144 + byteAt s 1 % 64 * 4096 + byteAt s 2 % 64 * 64 + byteAt s 3 % 64 ∧ byteAt s 0 % 8 * 262144 + byteAt s 1 % 64 * 4096 + byteAt s 2 % 64 * 64 + byteAt s 3 % 64 ≤ 1114111))) inferInstance ?_ ?_
      · unfold Lib.decodeN
        rw [if_neg (by omega), if_neg (by omega), if_neg (by omega), if_pos ⟨h1, ⟨by omega, c1⟩, ⟨by omega, c2⟩, by omega, c3⟩]
      · omega
  exact e _ rfl
theorem oneL_ascii {s : List UInt8} (hne : s ≠ []) (h : byteAt s 0 < 128) : oneL s = (byteAt s 0, 1) := by
  rw [oneL, if_neg hne, Lib.decodeL_N]
  have e : Lib.decodeN s.length (byteAt s 0) (byteAt s 1) (byteAt s 2) (byteAt s 3) = (byteAt s 0, 1) := by
    unfold Lib.decodeN; rw [if_pos h]
  simp only [byteAt] at e h ⊢
  rw [e, if_neg (fun h2 => by have h3 : (s.getD 0 0).toNat = 65533 := h2.1; omega)]
theorem oneL_none {s : List UInt8} (hne : s ≠ []) (h : ¬ byteAt s 0 < 128) (h1 : byteAt s 0 / 32 ≠ 6) (h2 : byteAt s 0 / 16 ≠ 14) (h3 : byteAt s 0 / 8 ≠ 30) : oneL s = (0, 0) := by
  rw [oneL, if_neg hne, Lib.decodeL_N]
  have e : Lib.decodeN s.length (byteAt s 0) (byteAt s 1) (byteAt s 2) (byteAt s 3) = (65533, 1) := by
    unfold Lib.decodeN; rw [if_neg h, if_neg (by omega), if_neg (by omega), if_neg (by omega)]
  simp only [byteAt] at e ⊢
  rw [e]; rfl
theorem wrap_at {c : UInt8} {b : Nat} (h : c.toNat = b) : IntKind.i64.wrap (c.toNat : Int) = ((b : Nat) : Int) := by
  subst h
  have := c.toNat_lt
  exact IntWalk.i64_in _ ⟨by omega, by omega⟩
theorem rone_pu (s : List UInt8) (hs : s.length ≤ 1000000000) : Pu Tryd.prog 78 [str s] (.tuple #[.int .i64 ((oneL s).1 : Nat), .int .i64 ((oneL s).2 : Nat)]) := by
  refine Pu.of Tryd.func78 Tryd.ntmps78 rfl rfl fun w => ?_
  refine WK.seq ?_
  refine WK.region ?_
  refine WL.asC rfl ?_
  refine WL.asC rfl ?_
  refine WL.nil ?_
  refine WK.seq ?_
  refine WK.seq ?_
  refine WK.region ?_
  refine WL.mvS rfl rfl ?_
  refine WL.eqlS rfl rfl rfl ?_
  refine WL.nil ?_
  -- cond
  refine WK.cond rfl (fun h1 => ?_) (fun h1 => ?_)
  · refine WK.seq ?_
    refine WK.region ?_
    refine WL.asC rfl ?_
    refine WL.asC rfl ?_
    refine WL.nil ?_
    refine WK.ret ?_
    refine WK.ret_code ?_
    -- end
    refine WK.end2 rfl (show _ = .int _ _ from rfl) (show _ = .int _ _ from rfl) ?_
    have : s = [] := by simpa using h1
    subst this; rfl
  · skip
    have hne : s ≠ [] := by simpa using h1
    have hl : 0 < s.length := List.length_pos_iff.2 hne
    have hb0 := byteAt_lt s 0
    refine WK.skip ?_
    refine WK.seq ?_
    refine WK.region ?_
    refine WL.mvS rfl rfl ?_
    refine WL.indexS rfl rfl rfl rfl (byteAt_get hl).1 ?_
    refine WL.convIe rfl rfl (wrap_at (byteAt_get hl).2) ?_
    refine WL.asI rfl rfl ?_
    refine WL.nil ?_
    refine WK.seq ?_
    refine WK.region ?_
    refine WL.asC rfl ?_
    refine WL.asC rfl ?_
    refine WL.asC rfl ?_
    refine WL.nil ?_
    refine WK.seq ?_
    refine WK.mid (G := Nat × Nat × Nat) (fun g => [(5, .int .i64 (g.1 : Nat)), (6, .int .i64 (g.2.1 : Nat)), (7, .int .i64 (g.2.2 : Nat)), (0, str s)]) (fun _ _ => none) (fun _ => []) (fun g => Kind3 (byteAt s 0) g.1 g.2.1 g.2.2) ?_ ?_
    · skip
      refine WK.block ?_
      refine WK.seq ?_
      refine WK.region ?_
      refine WL.mvI rfl rfl ?_
      refine WL.lss rfl rfl rfl ?_
      refine WL.asB rfl rfl ?_
      refine WL.nil ?_
      refine WK.cond rfl (fun h1 => ?_) (fun h1 => ?_)
      · skip
        refine WK.seq ?_
        refine WK.region ?_
        refine WL.mvI rfl rfl ?_
        refine WL.asI rfl rfl ?_
        refine WL.asC rfl ?_
        refine WL.nil ?_
        refine WK.ret ?_
        refine WK.ret_blk ?_
        refine WK.ret_lp ?_
        refine WK.ret_code ?_
        refine WK.end2 rfl (show _ = .int _ _ from rfl) (show _ = .int _ _ from rfl) ?_
        (simp only [Bool.not_true, Bool.not_false, decide_eq_true_eq, decide_eq_false_iff_not] at *; first | (rw [oneL_ascii hne (by omega)]; rfl) | (rw [oneL_none hne (by omega) (by omega) (by omega) (by omega)]; rfl))
      · skip
        refine WK.seq ?_
        refine WK.region ?_
        refine WL.mvI rfl rfl ?_
        refine WL.geq rfl rfl rfl ?_
        refine WL.mvB rfl rfl ?_
        refine WL.guardSplit rfl rfl (fun h2 => ?_) (fun h2 => ?_)
        · skip
          refine WL.mvI rfl rfl ?_
          refine WL.guard rfl h2 ?_
          refine WL.lss rfl rfl rfl ?_
          refine WL.pickT rfl rfl h2 rfl ?_
          refine WL.asB rfl rfl ?_
          refine WL.nil ?_
          refine WK.cond rfl (fun h3 => ?_) (fun h3 => ?_)
          · skip
            refine WK.region ?_
            refine WL.mvI rfl rfl ?_
            refine WL.rem rfl rfl rfl (by omega) (by omega) ?_
            refine WL.asC rfl ?_
            refine WL.asI rfl rfl ?_
            refine WL.asC rfl ?_
            refine WL.nil ?_
            refine WK.blk ?_
            simp only [Bool.not_true, Bool.not_false, decide_eq_true_eq, decide_eq_false_iff_not] at *
            first | exact WK.met (2, byteAt s 0 % 32, 128) (.inl ⟨by omega, rfl, rfl, rfl⟩) ⟨rfl, rfl, rfl, rfl, trivial⟩ rfl rfl | exact WK.met (3, byteAt s 0 % 16, 2048) (.inr (.inl ⟨by omega, rfl, rfl, rfl⟩)) ⟨rfl, rfl, rfl, rfl, trivial⟩ rfl rfl | exact WK.met (4, byteAt s 0 % 8, 65536) (.inr (.inr ⟨by omega, rfl, rfl, rfl⟩)) ⟨rfl, rfl, rfl, rfl, trivial⟩ rfl rfl
          · skip
            refine WK.seq ?_
            refine WK.region ?_
            refine WL.mvI rfl rfl ?_
            refine WL.geq rfl rfl rfl ?_
            refine WL.mvB rfl rfl ?_
            refine WL.guardSplit rfl rfl (fun h4 => ?_) (fun h4 => ?_)
            · skip
              refine WL.mvI rfl rfl ?_
              refine WL.guard rfl h4 ?_
              refine WL.lss rfl rfl rfl ?_
              refine WL.pickT rfl rfl h4 rfl ?_
              refine WL.asB rfl rfl ?_
              refine WL.nil ?_
              refine WK.cond rfl (fun h5 => ?_) (fun h5 => ?_)
              · skip
                refine WK.region ?_
                refine WL.mvI rfl rfl ?_
                refine WL.rem rfl rfl rfl (by omega) (by omega) ?_
                refine WL.asC rfl ?_
                refine WL.asI rfl rfl ?_
                refine WL.asC rfl ?_
                refine WL.nil ?_
                refine WK.blk ?_
                simp only [Bool.not_true, Bool.not_false, decide_eq_true_eq, decide_eq_false_iff_not] at *
                first | exact WK.met (2, byteAt s 0 % 32, 128) (.inl ⟨by omega, rfl, rfl, rfl⟩) ⟨rfl, rfl, rfl, rfl, trivial⟩ rfl rfl | exact WK.met (3, byteAt s 0 % 16, 2048) (.inr (.inl ⟨by omega, rfl, rfl, rfl⟩)) ⟨rfl, rfl, rfl, rfl, trivial⟩ rfl rfl | exact WK.met (4, byteAt s 0 % 8, 65536) (.inr (.inr ⟨by omega, rfl, rfl, rfl⟩)) ⟨rfl, rfl, rfl, rfl, trivial⟩ rfl rfl
              · skip
                refine WK.seq ?_
                refine WK.region ?_
                refine WL.mvI rfl rfl ?_
                refine WL.geq rfl rfl rfl ?_
                refine WL.mvB rfl rfl ?_
                refine WL.guardSplit rfl rfl (fun h6 => ?_) (fun h6 => ?_)
                · skip
                  refine WL.mvI rfl rfl ?_
                  refine WL.guard rfl h6 ?_
                  refine WL.lss rfl rfl rfl ?_
                  refine WL.pickT rfl rfl h6 rfl ?_
                  refine WL.asB rfl rfl ?_
                  refine WL.nil ?_
                  refine WK.cond rfl (fun h7 => ?_) (fun h7 => ?_)
                  · skip
                    refine WK.region ?_
                    refine WL.mvI rfl rfl ?_
                    refine WL.rem rfl rfl rfl (by omega) (by omega) ?_
                    refine WL.asC rfl ?_
                    refine WL.asI rfl rfl ?_
                    refine WL.asC rfl ?_
                    refine WL.nil ?_
                    refine WK.blk ?_
                    simp only [Bool.not_true, Bool.not_false, decide_eq_true_eq, decide_eq_false_iff_not] at *
                    first | exact WK.met (2, byteAt s 0 % 32, 128) (.inl ⟨by omega, rfl, rfl, rfl⟩) ⟨rfl, rfl, rfl, rfl, trivial⟩ rfl rfl | exact WK.met (3, byteAt s 0 % 16, 2048) (.inr (.inl ⟨by omega, rfl, rfl, rfl⟩)) ⟨rfl, rfl, rfl, rfl, trivial⟩ rfl rfl | exact WK.met (4, byteAt s 0 % 8, 65536) (.inr (.inr ⟨by omega, rfl, rfl, rfl⟩)) ⟨rfl, rfl, rfl, rfl, trivial⟩ rfl rfl
                  · skip
                    refine WK.seq ?_
                    refine WK.region ?_
                    refine WL.asC rfl ?_
                    refine WL.asC rfl ?_
                    refine WL.nil ?_
                    refine WK.ret ?_
                    refine WK.ret_blk ?_
                    refine WK.ret_lp ?_
                    refine WK.ret_code ?_
                    refine WK.end2 rfl (show _ = .int _ _ from rfl) (show _ = .int _ _ from rfl) ?_
                    (simp only [Bool.not_true, Bool.not_false, decide_eq_true_eq, decide_eq_false_iff_not] at *; first | (rw [oneL_ascii hne (by omega)]; rfl) | (rw [oneL_none hne (by omega) (by omega) (by omega) (by omega)]; rfl))
                · skip
                  refine WL.guardSkip rfl h6 rfl ?_
                  refine WL.pickF rfl rfl h6 rfl ?_
                  refine WL.asB rfl rfl ?_
                  refine WL.nil ?_
                  refine WK.cond_f rfl ?_
                  refine WK.seq ?_
                  refine WK.region ?_
                  refine WL.asC rfl ?_
                  refine WL.asC rfl ?_
                  refine WL.nil ?_
                  refine WK.ret ?_
                  refine WK.ret_blk ?_
                  refine WK.ret_lp ?_
                  refine WK.ret_code ?_
                  refine WK.end2 rfl (show _ = .int _ _ from rfl) (show _ = .int _ _ from rfl) ?_
                  (simp only [Bool.not_true, Bool.not_false, decide_eq_true_eq, decide_eq_false_iff_not] at *; first | (rw [oneL_ascii hne (by omega)]; rfl) | (rw [oneL_none hne (by omega) (by omega) (by omega) (by omega)]; rfl))
            · skip
              refine WL.guardSkip rfl h4 rfl ?_
              refine WL.pickF rfl rfl h4 rfl ?_
              refine WL.asB rfl rfl ?_
              refine WL.nil ?_
              refine WK.cond_f rfl ?_
              refine WK.seq ?_
              refine WK.region ?_
              refine WL.mvI rfl rfl ?_
              refine WL.geq rfl rfl rfl ?_
              refine WL.mvB rfl rfl ?_
              refine WL.guardSplit rfl rfl (fun h5 => ?_) (fun h5 => ?_)
              · skip
                refine WL.mvI rfl rfl ?_
                refine WL.guard rfl h5 ?_
                refine WL.lss rfl rfl rfl ?_
                refine WL.pickT rfl rfl h5 rfl ?_
                refine WL.asB rfl rfl ?_
                refine WL.nil ?_
                refine WK.cond rfl (fun h6 => ?_) (fun h6 => ?_)
                · skip
                  refine WK.region ?_
                  refine WL.mvI rfl rfl ?_
                  refine WL.rem rfl rfl rfl (by omega) (by omega) ?_
                  refine WL.asC rfl ?_
                  refine WL.asI rfl rfl ?_
                  refine WL.asC rfl ?_
                  refine WL.nil ?_
                  refine WK.blk ?_
                  simp only [Bool.not_true, Bool.not_false, decide_eq_true_eq, decide_eq_false_iff_not] at *
                  first | exact WK.met (2, byteAt s 0 % 32, 128) (.inl ⟨by omega, rfl, rfl, rfl⟩) ⟨rfl, rfl, rfl, rfl, trivial⟩ rfl rfl | exact WK.met (3, byteAt s 0 % 16, 2048) (.inr (.inl ⟨by omega, rfl, rfl, rfl⟩)) ⟨rfl, rfl, rfl, rfl, trivial⟩ rfl rfl | exact WK.met (4, byteAt s 0 % 8, 65536) (.inr (.inr ⟨by omega, rfl, rfl, rfl⟩)) ⟨rfl, rfl, rfl, rfl, trivial⟩ rfl rfl
                · skip
                  refine WK.seq ?_
                  refine WK.region ?_
                  refine WL.asC rfl ?_
                  refine WL.asC rfl ?_
                  refine WL.nil ?_
                  refine WK.ret ?_
                  refine WK.ret_blk ?_
                  refine WK.ret_lp ?_
                  refine WK.ret_code ?_
                  refine WK.end2 rfl (show _ = .int _ _ from rfl) (show _ = .int _ _ from rfl) ?_
                  (simp only [Bool.not_true, Bool.not_false, decide_eq_true_eq, decide_eq_false_iff_not] at *; first | (rw [oneL_ascii hne (by omega)]; rfl) | (rw [oneL_none hne (by omega) (by omega) (by omega) (by omega)]; rfl))
              · skip
                refine WL.guardSkip rfl h5 rfl ?_
                refine WL.pickF rfl rfl h5 rfl ?_
                refine WL.asB rfl rfl ?_
                refine WL.nil ?_
                refine WK.cond_f rfl ?_
                refine WK.seq ?_
                refine WK.region ?_
                refine WL.asC rfl ?_
                refine WL.asC rfl ?_
                refine WL.nil ?_
                refine WK.ret ?_
                refine WK.ret_blk ?_
                refine WK.ret_lp ?_
                refine WK.ret_code ?_
                refine WK.end2 rfl (show _ = .int _ _ from rfl) (show _ = .int _ _ from rfl) ?_
                (simp only [Bool.not_true, Bool.not_false, decide_eq_true_eq, decide_eq_false_iff_not] at *; first | (rw [oneL_ascii hne (by omega)]; rfl) | (rw [oneL_none hne (by omega) (by omega) (by omega) (by omega)]; rfl))
        · skip
          refine WL.guardSkip rfl h2 rfl ?_
          refine WL.pickF rfl rfl h2 rfl ?_
          refine WL.asB rfl rfl ?_
          refine WL.nil ?_
          refine WK.cond_f rfl ?_
          refine WK.seq ?_
          refine WK.region ?_
          refine WL.mvI rfl rfl ?_
          refine WL.geq rfl rfl rfl ?_
          refine WL.mvB rfl rfl ?_
          refine WL.guardSplit rfl rfl (fun h3 => ?_) (fun h3 => ?_)
          · skip
            refine WL.mvI rfl rfl ?_
            refine WL.guard rfl h3 ?_
            refine WL.lss rfl rfl rfl ?_
            refine WL.pickT rfl rfl h3 rfl ?_
            refine WL.asB rfl rfl ?_
            refine WL.nil ?_
            refine WK.cond rfl (fun h4 => ?_) (fun h4 => ?_)
            · skip
              refine WK.region ?_
              refine WL.mvI rfl rfl ?_
              refine WL.rem rfl rfl rfl (by omega) (by omega) ?_
              refine WL.asC rfl ?_
              refine WL.asI rfl rfl ?_
              refine WL.asC rfl ?_
              refine WL.nil ?_
              refine WK.blk ?_
              simp only [Bool.not_true, Bool.not_false, decide_eq_true_eq, decide_eq_false_iff_not] at *
              first | exact WK.met (2, byteAt s 0 % 32, 128) (.inl ⟨by omega, rfl, rfl, rfl⟩) ⟨rfl, rfl, rfl, rfl, trivial⟩ rfl rfl | exact WK.met (3, byteAt s 0 % 16, 2048) (.inr (.inl ⟨by omega, rfl, rfl, rfl⟩)) ⟨rfl, rfl, rfl, rfl, trivial⟩ rfl rfl | exact WK.met (4, byteAt s 0 % 8, 65536) (.inr (.inr ⟨by omega, rfl, rfl, rfl⟩)) ⟨rfl, rfl, rfl, rfl, trivial⟩ rfl rfl
            · skip
              refine WK.seq ?_
              refine WK.region ?_
              refine WL.mvI rfl rfl ?_
              refine WL.geq rfl rfl rfl ?_
              refine WL.mvB rfl rfl ?_
              refine WL.guardSplit rfl rfl (fun h5 => ?_) (fun h5 => ?_)
              · skip
                refine WL.mvI rfl rfl ?_
                refine WL.guard rfl h5 ?_
                refine WL.lss rfl rfl rfl ?_
                refine WL.pickT rfl rfl h5 rfl ?_
                refine WL.asB rfl rfl ?_
                refine WL.nil ?_
                refine WK.cond rfl (fun h6 => ?_) (fun h6 => ?_)
                · skip
                  refine WK.region ?_
                  refine WL.mvI rfl rfl ?_
                  refine WL.rem rfl rfl rfl (by omega) (by omega) ?_
                  refine WL.asC rfl ?_
                  refine WL.asI rfl rfl ?_
                  refine WL.asC rfl ?_
                  refine WL.nil ?_
                  refine WK.blk ?_
                  simp only [Bool.not_true, Bool.not_false, decide_eq_true_eq, decide_eq_false_iff_not] at *
                  first | exact WK.met (2, byteAt s 0 % 32, 128) (.inl ⟨by omega, rfl, rfl, rfl⟩) ⟨rfl, rfl, rfl, rfl, trivial⟩ rfl rfl | exact WK.met (3, byteAt s 0 % 16, 2048) (.inr (.inl ⟨by omega, rfl, rfl, rfl⟩)) ⟨rfl, rfl, rfl, rfl, trivial⟩ rfl rfl | exact WK.met (4, byteAt s 0 % 8, 65536) (.inr (.inr ⟨by omega, rfl, rfl, rfl⟩)) ⟨rfl, rfl, rfl, rfl, trivial⟩ rfl rfl
                · skip
                  refine WK.seq ?_
                  refine WK.region ?_
                  refine WL.asC rfl ?_
                  refine WL.asC rfl ?_
                  refine WL.nil ?_
                  refine WK.ret ?_
                  refine WK.ret_blk ?_
                  refine WK.ret_lp ?_
                  refine WK.ret_code ?_
                  refine WK.end2 rfl (show _ = .int _ _ from rfl) (show _ = .int _ _ from rfl) ?_
                  (simp only [Bool.not_true, Bool.not_false, decide_eq_true_eq, decide_eq_false_iff_not] at *; first | (rw [oneL_ascii hne (by omega)]; rfl) | (rw [oneL_none hne (by omega) (by omega) (by omega) (by omega)]; rfl))
              · skip
                refine WL.guardSkip rfl h5 rfl ?_
                refine WL.pickF rfl rfl h5 rfl ?_
                refine WL.asB rfl rfl ?_
                refine WL.nil ?_
                refine WK.cond_f rfl ?_
                refine WK.seq ?_
                refine WK.region ?_
                refine WL.asC rfl ?_
                refine WL.asC rfl ?_
                refine WL.nil ?_
                refine WK.ret ?_
                refine WK.ret_blk ?_
                refine WK.ret_lp ?_
                refine WK.ret_code ?_
                refine WK.end2 rfl (show _ = .int _ _ from rfl) (show _ = .int _ _ from rfl) ?_
                (simp only [Bool.not_true, Bool.not_false, decide_eq_true_eq, decide_eq_false_iff_not] at *; first | (rw [oneL_ascii hne (by omega)]; rfl) | (rw [oneL_none hne (by omega) (by omega) (by omega) (by omega)]; rfl))
          · skip
            refine WL.guardSkip rfl h3 rfl ?_
            refine WL.pickF rfl rfl h3 rfl ?_
            refine WL.asB rfl rfl ?_
            refine WL.nil ?_
            refine WK.cond_f rfl ?_
            refine WK.seq ?_
            refine WK.region ?_
            refine WL.mvI rfl rfl ?_
            refine WL.geq rfl rfl rfl ?_
            refine WL.mvB rfl rfl ?_
            refine WL.guardSplit rfl rfl (fun h4 => ?_) (fun h4 => ?_)
            · skip
              refine WL.mvI rfl rfl ?_
              refine WL.guard rfl h4 ?_
              refine WL.lss rfl rfl rfl ?_
              refine WL.pickT rfl rfl h4 rfl ?_
              refine WL.asB rfl rfl ?_
              refine WL.nil ?_
              refine WK.cond rfl (fun h5 => ?_) (fun h5 => ?_)
              · skip
                refine WK.region ?_
                refine WL.mvI rfl rfl ?_
                refine WL.rem rfl rfl rfl (by omega) (by omega) ?_
                refine WL.asC rfl ?_
                refine WL.asI rfl rfl ?_
                refine WL.asC rfl ?_
                refine WL.nil ?_
                refine WK.blk ?_
                simp only [Bool.not_true, Bool.not_false, decide_eq_true_eq, decide_eq_false_iff_not] at *
                first | exact WK.met (2, byteAt s 0 % 32, 128) (.inl ⟨by omega, rfl, rfl, rfl⟩) ⟨rfl, rfl, rfl, rfl, trivial⟩ rfl rfl | exact WK.met (3, byteAt s 0 % 16, 2048) (.inr (.inl ⟨by omega, rfl, rfl, rfl⟩)) ⟨rfl, rfl, rfl, rfl, trivial⟩ rfl rfl | exact WK.met (4, byteAt s 0 % 8, 65536) (.inr (.inr ⟨by omega, rfl, rfl, rfl⟩)) ⟨rfl, rfl, rfl, rfl, trivial⟩ rfl rfl
              · skip
                refine WK.seq ?_
                refine WK.region ?_
                refine WL.asC rfl ?_
                refine WL.asC rfl ?_
                refine WL.nil ?_
                refine WK.ret ?_
                refine WK.ret_blk ?_
                refine WK.ret_lp ?_
                refine WK.ret_code ?_
                refine WK.end2 rfl (show _ = .int _ _ from rfl) (show _ = .int _ _ from rfl) ?_
                (simp only [Bool.not_true, Bool.not_false, decide_eq_true_eq, decide_eq_false_iff_not] at *; first | (rw [oneL_ascii hne (by omega)]; rfl) | (rw [oneL_none hne (by omega) (by omega) (by omega) (by omega)]; rfl))
            · skip
              refine WL.guardSkip rfl h4 rfl ?_
              refine WL.pickF rfl rfl h4 rfl ?_
              refine WL.asB rfl rfl ?_
              refine WL.nil ?_
              refine WK.cond_f rfl ?_
              refine WK.seq ?_
              refine WK.region ?_
              refine WL.asC rfl ?_
              refine WL.asC rfl ?_
              refine WL.nil ?_
              refine WK.ret ?_
              refine WK.ret_blk ?_
              refine WK.ret_lp ?_
              refine WK.ret_code ?_
              refine WK.end2 rfl (show _ = .int _ _ from rfl) (show _ = .int _ _ from rfl) ?_
              (simp only [Bool.not_true, Bool.not_false, decide_eq_true_eq, decide_eq_false_iff_not] at *; first | (rw [oneL_ascii hne (by omega)]; rfl) | (rw [oneL_none hne (by omega) (by omega) (by omega) (by omega)]; rfl))
    rintro ⟨n, x0, least⟩ ρ hk3
    replace hk3 : Kind3 (byteAt s 0) n x0 least := hk3
    have hn4 : 2 ≤ n ∧ n ≤ 4 ∧ x0 < 32 := by rcases hk3 with h | h | h <;> omega
    refine WK.seq ?_
    refine WK.seq ?_
    refine WK.region ?_
    refine WL.mvS rfl rfl ?_
    refine WL.lenS rfl rfl ?_
    refine WL.mvI rfl rfl ?_
    refine WL.lss rfl rfl rfl ?_
    refine WL.nil ?_
    -- cond
    refine WK.cond rfl (fun h2 => ?_) (fun h2 => ?_)
    · refine WK.seq ?_
      refine WK.region ?_
      refine WL.asC rfl ?_
      refine WL.asC rfl ?_
      refine WL.nil ?_
      refine WK.ret ?_
      refine WK.ret_code ?_
      -- end
      refine WK.end2 rfl (show _ = .int _ _ from rfl) (show _ = .int _ _ from rfl) ?_
      rw [oneL_short hne hk3 (.inl (by simpa using h2))]; rfl
    · skip
      have hlen : n ≤ s.length := by simp at h2; omega
      refine WK.skip ?_
      refine WK.seq ?_
      refine WK.seq ?_
      refine WK.region ?_
      refine WL.asC rfl ?_
      refine WL.nil ?_
      refine WK.block ?_
      -- loop
      refine WK.loop (fun (k : Nat) => [(8, .int .i64 ((k + 1 : Nat) : Int)), (6, .int .i64 (xAt x0 s k : Nat)), (5, .int .i64 (n : Nat)), (7, .int .i64 (least : Nat)), (0, str s)]) (fun _ _ => none) (fun _ => [])
        (fun k => k + 1 ≤ n ∧ ∀ j, 1 ≤ j → j < k + 1 → byteAt s j / 64 = 2) (fun k => n - k) 0 ⟨by omega, by intro j h1 h2; omega⟩ ⟨rfl, rfl, rfl, rfl, rfl, trivial⟩ rfl rfl ?_
      rintro k ρ ⟨hk, hcont⟩
      have hx := xAt_lt hn4.2.2 s k
      have hp : 64 ^ k ≤ 64 ^ 3 := Nat.pow_le_pow_right (by decide) (by omega)
      have hx' : xAt x0 s k ≤ 8388608 := by omega
      refine WK.seq ?_
      refine WK.seq ?_
      refine WK.region ?_
      refine WL.mvI rfl rfl ?_
      refine WL.mvI rfl rfl ?_
      refine WL.lss rfl rfl rfl ?_
      refine WL.nil ?_
      -- cond
      refine WK.cond rfl (fun h => ?_) (fun h => ?_)
      · have hlt : k + 1 < n := by simp at h; omega
        have hlt2 : k + 1 < s.length := by omega
        have hb := byteAt_lt s (k + 1)
        have hget := byteAt_get hlt2
        refine WK.skip ?_
        refine WK.seq ?_
        refine WK.block ?_
        refine WK.seq ?_
        refine WK.seq ?_
        refine WK.mid (fun (_ : Unit) => [(63, .bool (decide (((s[k + 1]).toNat : Int) < 128) || decide (192 ≤ ((s[k + 1]).toNat : Int)))), (8, .int .i64 ((k + 1 : Nat) : Int)), (6, .int .i64 (xAt x0 s k : Nat)), (5, .int .i64 (n : Nat)), (7, .int .i64 (least : Nat)), (0, str s)]) (fun _ _ => none) (fun _ => []) (fun _ => True) ?_ ?_
        · skip
          refine WK.region ?_
          refine WL.mvS rfl rfl ?_
          refine WL.mvI rfl rfl ?_
          refine WL.indexS rfl rfl rfl rfl hget.1 ?_
          refine WL.lss rfl rfl rfl ?_
          refine WL.mvB rfl rfl ?_
          refine WL.guardSplit rfl rfl (fun h1 => ?_) (fun h1 => ?_)
          · skip
            refine WL.mvS rfl rfl ?_
            refine WL.guard rfl h1 ?_
            refine WL.mvI rfl rfl ?_
            refine WL.guard rfl h1 ?_
            refine WL.indexS rfl rfl rfl rfl hget.1 ?_
            refine WL.guard rfl h1 ?_
            refine WL.geq rfl rfl rfl ?_
            refine WL.pickF rfl rfl h1 rfl ?_
            refine WL.nil ?_
            refine WK.met () trivial ⟨congrArg Value.bool ?_, rfl, rfl, rfl, rfl, rfl, trivial⟩ rfl rfl
            simp only [h1, Bool.not_true, Bool.not_false, Bool.false_or, Bool.true_or]
          · skip
            refine WL.guardSkip rfl h1 rfl ?_
            refine WL.guardSkip rfl h1 rfl ?_
            refine WL.guardSkip rfl h1 rfl ?_
            refine WL.pickT rfl rfl h1 rfl ?_
            refine WL.nil ?_
            refine WK.met () trivial ⟨congrArg Value.bool ?_, rfl, rfl, rfl, rfl, rfl, trivial⟩ rfl rfl
            simp only [h1, Bool.not_true, Bool.not_false, Bool.false_or, Bool.true_or]
        rintro _ ρ _
        -- cond
        rw [hget.2]
        refine WK.cond rfl (fun h3 => ?_) (fun h3 => ?_)
        · refine WK.seq ?_
          refine WK.region ?_
          refine WL.asC rfl ?_
          refine WL.asC rfl ?_
          refine WL.nil ?_
          refine WK.ret ?_
          refine WK.ret_code ?_
          refine WK.ret_blk ?_
          refine WK.ret_code ?_
          refine WK.ret_lp ?_
          refine WK.ret_blk ?_
          refine WK.ret_code ?_
          -- end
          refine WK.end2 rfl (show _ = .int _ _ from rfl) (show _ = .int _ _ from rfl) ?_
          rw [oneL_short hne hk3 (.inr ⟨k + 1, by omega, hlt, by simp at h3; omega⟩)]; rfl
        · skip
          refine WK.skip ?_
          refine WK.region ?_
          refine WL.mvI rfl rfl ?_
          refine WL.mul rfl rfl rfl (by omega) ?_
          refine WL.mvS rfl rfl ?_
          refine WL.mvI rfl rfl ?_
          refine WL.indexS rfl rfl rfl rfl hget.1 ?_
          refine WL.convIe rfl rfl (wrap_at hget.2) ?_
          refine WL.rem rfl rfl rfl (by omega) (by omega) ?_
          refine WL.add rfl rfl rfl (by omega) ?_
          refine WL.asI rfl rfl ?_
          refine WL.nil ?_
          refine WK.blk ?_
          refine WK.region ?_
          refine WL.mvI rfl rfl ?_
          refine WL.add rfl rfl rfl (by omega) ?_
          refine WL.asI rfl rfl ?_
          refine WL.nil ?_
          -- again
          exact WK.again (k + 1) ⟨by omega, fun j h1 h2 => by
            by_cases hj : j = k + 1
            · subst hj; simp at h3; omega
            · exact hcont j h1 (by omega)⟩ (by omega) ⟨rfl, rfl, rfl, rfl, rfl, trivial⟩ rfl rfl
      · skip
        have hkn : k = n - 1 := by simp at h; omega
        subst hkn
        have hw := oneL_whole hne hk3 hlen (fun j h1 h2 => hcont j h1 (by omega))
        generalize xAt x0 s (n - 1) = x at *
        have hleast : least ≤ 65536 := by rcases hk3 with h | h | h <;> omega
        refine WK.exit ?_
        refine WK.exit_code ?_
        refine WK.exit_lp ?_
        refine WK.exit_hit ?_
        refine WK.seq ?_
        refine WK.seq ?_
        refine WK.mid (fun (_ : Unit) => [(86, .bool (decide ((x : Int) < least) || (decide (55296 ≤ (x : Int)) && decide ((x : Int) < 57344)) || decide (1114111 < (x : Int)))), (6, .int .i64 (x : Nat)), (5, .int .i64 (n : Nat))]) (fun _ _ => none) (fun _ => []) (fun _ => True) ?_ ?_
        · skip
          refine WK.region ?_
          refine WL.mvI rfl rfl ?_
          refine WL.mvI rfl rfl ?_
          refine WL.lss rfl rfl rfl ?_
          refine WL.mvB rfl rfl ?_
          refine WL.guardSplit rfl rfl (fun h1 => ?_) (fun h1 => ?_)
          · skip
            refine WL.mvI rfl rfl ?_
            refine WL.guard rfl h1 ?_
            refine WL.geq rfl rfl rfl ?_
            refine WL.guard rfl h1 ?_
            refine WL.mvB rfl rfl ?_
            refine WL.guardSplit rfl rfl (fun h2 => ?_) (fun h2 => ?_)
            · skip
              refine WL.mvI rfl rfl ?_
              refine WL.guard rfl h2 ?_
              refine WL.lss rfl rfl rfl ?_
              refine WL.guard rfl h1 ?_
              refine WL.pickT rfl rfl h2 rfl ?_
              refine WL.pickF rfl rfl h1 rfl ?_
              refine WL.mvB rfl rfl ?_
              refine WL.guardSplit rfl rfl (fun h3 => ?_) (fun h3 => ?_)
              · skip
                refine WL.mvI rfl rfl ?_
                refine WL.guard rfl h3 ?_
                refine WL.gtr rfl rfl rfl ?_
                refine WL.pickF rfl rfl h3 rfl ?_
                refine WL.nil ?_
                refine WK.met () trivial ⟨congrArg Value.bool ?_, rfl, rfl, trivial⟩ rfl rfl
                simp only [*, Bool.not_true, Bool.not_false, Bool.false_or, Bool.true_or, Bool.true_and, Bool.false_and, Bool.or_false, Bool.or_true]
              · skip
                refine WL.guardSkip rfl h3 rfl ?_
                refine WL.pickT rfl rfl h3 rfl ?_
                refine WL.nil ?_
                refine WK.met () trivial ⟨congrArg Value.bool ?_, rfl, rfl, trivial⟩ rfl rfl
                simp only [*, Bool.not_true, Bool.not_false, Bool.false_or, Bool.true_or, Bool.true_and, Bool.false_and, Bool.or_false, Bool.or_true]
            · skip
              refine WL.guardSkip rfl h2 rfl ?_
              refine WL.guard rfl h1 ?_
              refine WL.pickF rfl rfl h2 rfl ?_
              refine WL.pickF rfl rfl h1 rfl ?_
              refine WL.mvB rfl rfl ?_
              refine WL.guard rfl rfl ?_
              refine WL.mvI rfl rfl ?_
              refine WL.guard rfl rfl ?_
              refine WL.gtr rfl rfl rfl ?_
              refine WL.pickF rfl rfl rfl rfl ?_
              refine WL.nil ?_
              refine WK.met () trivial ⟨congrArg Value.bool ?_, rfl, rfl, trivial⟩ rfl rfl
              simp only [*, Bool.not_true, Bool.not_false, Bool.false_or, Bool.true_or, Bool.true_and, Bool.false_and, Bool.or_false, Bool.or_true]
          · skip
            refine WL.guardSkip rfl h1 rfl ?_
            refine WL.guardSkip rfl h1 rfl ?_
            refine WL.guardNone rfl rfl ?_
            refine WL.guardNone rfl rfl ?_
            refine WL.guardSkip rfl h1 rfl ?_
            refine WL.pickT rfl rfl h1 rfl ?_
            refine WL.mvB rfl rfl ?_
            refine WL.guardSkip rfl rfl rfl ?_
            refine WL.guardSkip rfl rfl rfl ?_
            refine WL.pickT rfl rfl rfl rfl ?_
            refine WL.nil ?_
            refine WK.met () trivial ⟨congrArg Value.bool ?_, rfl, rfl, trivial⟩ rfl rfl
            simp only [*, Bool.not_true, Bool.not_false, Bool.false_or, Bool.true_or, Bool.true_and, Bool.false_and, Bool.or_false, Bool.or_true]
        rintro _ ρ _
        -- cond
        refine WK.cond rfl (fun h4 => ?_) (fun h4 => ?_)
        · refine WK.seq ?_
          refine WK.region ?_
          refine WL.asC rfl ?_
          refine WL.asC rfl ?_
          refine WL.nil ?_
          refine WK.ret ?_
          refine WK.ret_code ?_
          -- end
          refine WK.end2 rfl (show _ = .int _ _ from rfl) (show _ = .int _ _ from rfl) ?_
          rw [hw, if_pos (by simp at h4; omega)]; rfl
        · skip
          refine WK.skip ?_
          refine WK.seq ?_
          refine WK.region ?_
          refine WL.mvI rfl rfl ?_
          refine WL.mvI rfl rfl ?_
          refine WL.asI rfl rfl ?_
          refine WL.asI rfl rfl ?_
          refine WL.nil ?_
          refine WK.ret ?_
          -- end
          refine WK.end2 rfl (show _ = .int _ _ from rfl) (show _ = .int _ _ from rfl) ?_
          rw [hw, if_neg (by simp at h4; omega)]

theorem oneL_zero {s : List UInt8} (hne : s ≠ []) : (oneL s).2 = 0 ↔ ((Lib.decodeL s).1 = 65533 ∧ (Lib.decodeL s).2 = 1) := by
  unfold oneL
  rw [if_neg hne]
  by_cases h : (Lib.decodeL s).1 = 65533 ∧ (Lib.decodeL s).2 = 1
  · rw [if_pos h]; simp [h]
  · rw [if_neg h]
    have := Lib.decodeL_width s
    constructor
    · intro h2; omega
    · intro h2; exact absurd h2 h
theorem oneL_pos {s : List UInt8} (hne : s ≠ []) (h : (oneL s).2 ≠ 0) : oneL s = Lib.decodeL s := by
  have h2 := fun h3 => h ((oneL_zero hne).2 h3)
  unfold oneL
  rw [if_neg hne, if_neg h2]
theorem valid_fuel : ∀ (n k : Nat) (l : List UInt8), l.length ≤ n → l.length ≤ k → Lib.validGoD n l = Lib.validGoD k l
  | 0, k, l, hn, _ => by
    have : l = [] := List.eq_nil_of_length_eq_zero (by omega)
    subst this
    cases k <;> simp [Lib.validGoD]
  | n + 1, 0, l, _, hm => by
    have : l = [] := List.eq_nil_of_length_eq_zero (by omega)
    subst this
    simp [Lib.validGoD]
  | n + 1, k + 1, l, hn, hm => by
    by_cases hne : l = []
    · subst hne; simp [Lib.validGoD]
    · have hw := Lib.decodeL_width l
      have hl : 0 < l.length := List.length_pos_iff.2 hne
      simp only [Lib.validGoD, if_neg hne]
      split
      · rfl
      · exact valid_fuel n k _ (by rw [List.length_drop]; omega) (by rw [List.length_drop]; omega)
theorem valid_step {s : List UInt8} (hne : s ≠ []) : Lib.validD s = if (oneL s).2 = 0 then false else Lib.validD (s.drop (oneL s).2) := by
  have hl : 0 < s.length := List.length_pos_iff.2 hne
  have hw := Lib.decodeL_width s
  obtain ⟨n, hn⟩ : ∃ n, s.length = n + 1 := ⟨s.length - 1, by omega⟩
  have e : Lib.validD s = if (Lib.decodeL s).1 = 65533 ∧ (Lib.decodeL s).2 = 1 then false else Lib.validGoD n (s.drop (Lib.decodeL s).2) := by
    unfold Lib.validD
    rw [hn, Lib.validGoD, if_neg hne]
  rw [e]
  by_cases h : (oneL s).2 = 0
  · rw [if_pos h, if_pos ((oneL_zero hne).1 h)]
  · rw [if_neg h, if_neg fun h2 => h ((oneL_zero hne).2 h2), oneL_pos hne h]
    exact valid_fuel _ _ _ (by rw [List.length_drop]; omega) (Nat.le_refl _)
theorem rletters_tr (m : Imm) (s : List UInt8) (hs : s.length ≤ 100000000) :
    Tr Tryd.prog 49 [str s] m [] fun u m' own' => m' = m ∧ ∃ a l c, u = .tuple #[.slice a l c, .bool (Lib.validD s)] := by
  refine Tr.of Tryd.func49 Tryd.ntmps49 rfl rfl fun w => ?_
  refine WK.seq ?_
  refine WK.region ?_
  refine WL.asC rfl ?_
  refine WL.asC rfl ?_
  refine WL.nil ?_
  refine WK.seq ?_
  refine WK.region ?_
  refine WL.asC rfl ?_
  refine WL.nil ?_
  refine WK.seq ?_
  refine WK.block ?_
  -- loop
  refine WK.flat (own' := [[]]) rfl ?_
  refine WK.loop (G := List UInt8 × Value × Bun × List Value) (fun g => [(0, str g.1), (4, g.2.1)]) (fun _ => m) (fun g => [g.2.2.1])
    (fun g => g.1.length + g.2.2.2.length ≤ s.length ∧ Lib.validD g.1 = Lib.validD s ∧ OSl g.2.2.1 1 21 g.2.1 g.2.2.2) (fun g => g.1.length) (s, .slice none 0 0, [], []) ⟨by simp, rfl, OSl.nil _ _ _⟩ ⟨rfl, rfl, trivial⟩ rfl rfl ?_
  rintro ⟨t, v, bk, xs⟩ ρ ⟨ht, hv, hO⟩
  replace ht : t.length + xs.length ≤ s.length := ht
  replace hv : Lib.validD t = Lib.validD s := hv
  replace hO : OSl bk 1 21 v xs := hO
  obtain ⟨a4, c4, hv4, _⟩ := hO.shape
  subst hv4
  refine WK.seq ?_
  refine WK.seq ?_
  refine WK.region ?_
  refine WL.mvS rfl rfl ?_
  refine WL.neqS rfl rfl rfl ?_
  refine WL.nil ?_
  -- cond
  refine WK.cond rfl (fun h => ?_) (fun h => ?_)
  · have hne : t ≠ [] := by simpa using h
    have hst := valid_step hne
    refine WK.skip ?_
    refine WK.block ?_
    refine WK.seq ?_
    refine WK.region ?_
    refine WL.mvS rfl rfl ?_
    refine WL.callp (rone_pu t (by omega)) rfl rfl rfl ?_
    refine WL.mvT rfl rfl ?_
    refine WL.extract rfl rfl rfl ?_
    refine WL.extract rfl rfl rfl ?_
    refine WL.asI rfl rfl ?_
    refine WL.asI rfl rfl ?_
    refine WL.nil ?_
    refine WK.seq ?_
    refine WK.seq ?_
    refine WK.region ?_
    refine WL.mvI rfl rfl ?_
    refine WL.eql rfl rfl rfl ?_
    refine WL.nil ?_
    -- cond
    refine WK.cond rfl (fun h2 => ?_) (fun h2 => ?_)
    · refine WK.seq ?_
      refine WK.region ?_
      refine WL.mvL rfl rfl ?_
      refine WL.asL rfl rfl ?_
      refine WL.asC rfl ?_
      refine WL.nil ?_
      refine WK.ret ?_
      refine WK.ret_code ?_
      refine WK.ret_blk ?_
      refine WK.ret_lp ?_
      refine WK.ret_blk ?_
      refine WK.ret_code ?_
      -- end
      refine WK.end2 rfl (show _ = .slice _ _ _ from rfl) (show _ = .bool _ from rfl) ?_
      have h3 : (oneL t).2 = 0 := by simp at h2; omega
      exact ⟨rfl, _, _, _, by rw [← hv, hst, if_pos h3]⟩
    · skip
      have h3 : (oneL t).2 ≠ 0 := by simp at h2; omega
      have hle : (oneL t).2 ≤ t.length := by rw [oneL_pos hne h3]; exact Lib.decodeL_le t hne
      refine WK.skip ?_
      refine WK.seq ?_
      refine WK.region ?_
      refine WL.mvL rfl rfl ?_
      refine WL.mvI rfl rfl ?_
      refine WL.convI rfl rfl ?_
      refine WL.buildSlice rfl [(.int _ _)] rfl rfl ⟨Fit.one rfl, trivial⟩ rfl fun b20 blk20 v20 hb20 hO20 => ?_
      obtain ⟨a20, c20, hv20, hc20⟩ := hO20.shape; subst hv20
      refine WL.append rfl rfl hO (by first | exact .here | exact .there .here | exact .there (.there .here) | exact .there (.there (.there .here)) | exact .there (.there (.there (.there .here))) | exact .there (.there (.there (.there (.there .here))))) rfl (hO20.sl fun p hp => .inr (At.mem (by first | exact .here | exact .there .here | exact .there (.there .here) | exact .there (.there (.there .here)) | exact .there (.there (.there (.there .here))) | exact .there (.there (.there (.there (.there .here))))) p hp)) rfl rfl (by simp; omega) _ (fun _ => (by first | exact .here | exact .there .here | exact .there (.there .here) | exact .there (.there (.there .here)) | exact .there (.there (.there (.there .here))) | exact .there (.there (.there (.there (.there .here)))))) fun v21 blk21 hO21 => ?_
      obtain ⟨a21, c21, hv21, hc21⟩ := hO21.shape; subst hv21
      refine WL.drop (.drop .refl) ?_
      refine WL.asL rfl rfl ?_
      refine WL.nil ?_
      refine WK.region ?_
      refine WL.mvS rfl rfl ?_
      refine WL.mvI rfl rfl ?_
      refine WL.sliceSL rfl rfl rfl (lo' := (oneL t).2) rfl hle ?_
      refine WL.asS rfl rfl ?_
      refine WL.nil ?_
      refine WK.blk ?_
      -- again
      refine WK.again (t.drop (oneL t).2, _, _, xs ++ [_]) ⟨?_, ?_, hO21⟩ ?_ ⟨rfl, rfl, trivial⟩ rfl rfl
      · show (t.drop (oneL t).2).length + (xs ++ [_]).length ≤ _
        simp; omega
      · show Lib.validD (t.drop (oneL t).2) = _
        rw [← hv, hst, if_neg h3]
      · show (t.drop (oneL t).2).length < t.length
        have : 0 < t.length := List.length_pos_iff.2 hne
        simp; omega
  · skip
    have hne : t = [] := by simpa using h
    refine WK.exit ?_
    refine WK.exit_code ?_
    refine WK.exit_lp ?_
    refine WK.exit_hit ?_
    refine WK.seq ?_
    refine WK.region ?_
    refine WL.mvL rfl rfl ?_
    refine WL.asL rfl rfl ?_
    refine WL.asC rfl ?_
    refine WL.nil ?_
    refine WK.ret ?_
    -- end
    refine WK.end2 rfl (show _ = .slice _ _ _ from rfl) (show _ = .bool _ from rfl) ?_
    subst hne
    exact ⟨rfl, _, _, _, by rw [← hv]; rfl⟩
theorem rvalid_pu (s : List UInt8) (hs : s.length ≤ 100000000) : Pu Tryd.prog 26 [str s] (.bool (Lib.validD s)) := by
  refine Pu.of Tryd.func26 Tryd.ntmps26 rfl rfl fun w => ?_
  refine WK.seq ?_
  refine WK.region ?_
  refine WL.asC rfl ?_
  refine WL.nil ?_
  refine WK.seq ?_
  refine WK.region ?_
  refine WL.mvS rfl rfl ?_
  refine WL.call (rletters_tr _ s hs) rfl rfl rfl .none ?_
  rintro u m1 back hle ⟨hm1, a1, l1, c1, hu⟩; subst m1; subst hu
  refine WL.mvT rfl rfl ?_
  refine WL.extract rfl rfl rfl ?_
  refine WL.extract rfl rfl rfl ?_
  refine WL.asL rfl rfl ?_
  refine WL.asB rfl rfl ?_
  refine WL.nil ?_
  refine WK.seq ?_
  refine WK.region ?_
  refine WL.mvB rfl rfl ?_
  refine WL.asB rfl rfl ?_
  refine WL.nil ?_
  refine WK.ret ?_
  -- end
  refine WK.end1 rfl (show _ = .bool _ from rfl) ?_
  rfl
/-- The two tables of unicode/utf8, in the blocks 0 and 1. -/
def Tabs (R : Nat → Obj → Prop) : Prop := ∀ w : World, (∀ b o, R b o → w.heap[b]? = some o) → Lib.Utf8Tabs 0 1 w
theorem validString_pm {R : Nat → Obj → Prop} (hT : Tabs R) (s : List UInt8) (hs : s.length ≤ 100000000) : Pm Tryd.prog 63 [str s] R (.bool (Lib.validD s)) := fun w hR =>
  (Tryd.utf8_ValidString ⟨s.toArray⟩ w (by simp [ByteArray.size]; omega) (hT w hR)).mono fun e w' hp => by
    obtain ⟨rfl, hb⟩ := hp
    refine ⟨?_, hb.os, hb.tape, hb.output, hb.size, hb.block⟩
    simp
theorem Tabs.mono {R R' : Nat → Obj → Prop} (h : Tabs R) (hR : ∀ b o, R b o → R' b o) : Tabs R' := fun w hw => h w fun b o hb => hw b o (hR b o hb)
theorem cvalid_pm {R : Nat → Obj → Prop} (hT : Tabs R) (s : List UInt8) (hs : s.length ≤ 100000000) : Pm Tryd.prog 38 [str s] R (.bool (Lib.validD s)) := by
  refine Pm.of Tryd.func38 Tryd.ntmps38 rfl rfl fun m w hR => ?_
  refine WK.seq ?_
  refine WK.region ?_
  refine WL.asC rfl ?_
  refine WL.nil ?_
  refine WK.seq ?_
  refine WK.region ?_
  refine WL.mvS rfl rfl ?_
  refine WL.callm (validString_pm (hT.mono fun b o h => .inl (hR b o h)) s hs) rfl rfl rfl ?_
  refine WL.asB rfl rfl ?_
  refine WL.nil ?_
  refine WK.ret ?_
  -- end
  refine WK.end1 rfl (show _ = .bool _ from rfl) ?_
  rfl
theorem cname_pu : Pu Tryd.prog 41 [.int .i64 3] (str [85, 84, 70, 45, 56]) := by
  refine Pu.of Tryd.func41 Tryd.ntmps41 rfl rfl fun w => ?_
  refine WK.seq ?_
  refine WK.region ?_
  refine WL.asC rfl ?_
  refine WL.nil ?_
  refine WK.seq ?_
  refine WK.seq ?_
  refine WK.region ?_
  refine WL.mvI rfl rfl ?_
  refine WL.nil ?_
  refine WK.block ?_
  refine WK.seq ?_
  refine WK.region ?_
  refine WL.eql rfl rfl rfl ?_
  refine WL.asB rfl rfl ?_
  refine WL.nil ?_
  refine WK.cond rfl (fun h1 => ?_) (fun h1 => ?_)
  · skip
    refine WK.seq ?_
    refine WK.region ?_
    refine WL.asC rfl ?_
    refine WL.nil ?_
    refine WK.ret ?_
    refine WK.ret_blk ?_
    refine WK.ret_code ?_
    refine WK.end1 rfl (show _ = str _ from rfl) ?_
    first | rfl | exact absurd h1 (by decide) | exact absurd h2 (by decide) | exact absurd h3 (by decide)
  · skip
    refine WK.seq ?_
    refine WK.region ?_
    refine WL.eql rfl rfl rfl ?_
    refine WL.asB rfl rfl ?_
    refine WL.nil ?_
    refine WK.cond rfl (fun h2 => ?_) (fun h2 => ?_)
    · skip
      refine WK.seq ?_
      refine WK.region ?_
      refine WL.asC rfl ?_
      refine WL.nil ?_
      refine WK.ret ?_
      refine WK.ret_blk ?_
      refine WK.ret_code ?_
      refine WK.end1 rfl (show _ = str _ from rfl) ?_
      first | rfl | exact absurd h1 (by decide) | exact absurd h2 (by decide) | exact absurd h3 (by decide)
    · skip
      refine WK.seq ?_
      refine WK.region ?_
      refine WL.eql rfl rfl rfl ?_
      refine WL.asB rfl rfl ?_
      refine WL.nil ?_
      refine WK.cond rfl (fun h3 => ?_) (fun h3 => ?_)
      · skip
        refine WK.seq ?_
        refine WK.region ?_
        refine WL.asC rfl ?_
        refine WL.nil ?_
        refine WK.ret ?_
        refine WK.ret_blk ?_
        refine WK.ret_code ?_
        refine WK.end1 rfl (show _ = str _ from rfl) ?_
        first | rfl | exact absurd h1 (by decide) | exact absurd h2 (by decide) | exact absurd h3 (by decide)
      · skip
        refine WK.skip ?_
        refine WK.blk ?_
        refine WK.seq ?_
        refine WK.region ?_
        refine WL.asC rfl ?_
        refine WL.nil ?_
        refine WK.ret ?_
        refine WK.end1 rfl (show _ = str _ from rfl) ?_
        first | rfl | exact absurd h1 (by decide) | exact absurd h2 (by decide) | exact absurd h3 (by decide)
end Go.SL
