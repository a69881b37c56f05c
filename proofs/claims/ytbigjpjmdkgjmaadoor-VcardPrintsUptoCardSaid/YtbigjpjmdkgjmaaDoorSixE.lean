/- The program's sixbit encoding, by three bytes: contract. -/
import Derived.Test.YtbigjpjmdkgjmaaDoorSixF
import Derived.Test.YtbigjpjmdkgjmaaDoorSlArr
namespace Go.SL
open Go Go.Proofs
set_option linter.unusedVariables false
set_option linter.unusedSimpArgs false

theorem or32 (i a b : Nat) (hb : b < 2 ^ i) (h : 2 ^ i * a + b < 2 ^ 32) :
    IntKind.u32.wrap ((BitVec.ofInt IntKind.u32.bits ((2 ^ i * a : Nat) : Int) ||| BitVec.ofInt IntKind.u32.bits ((b : Nat) : Int)).toNat : Nat) = ((2 ^ i * a + b : Nat) : Int) := by
  have hw : ∀ x : Nat, x < 2 ^ 32 → (BitVec.ofInt IntKind.u32.bits (x : Int)).toNat = x := by
    intro x hx
    show (BitVec.ofInt 32 (x : Int)).toNat = x
    rw [BitVec.toNat_ofInt]; omega
  rw [BitVec.toNat_or, hw _ (by omega), hw _ (by omega), ← Nat.two_pow_add_eq_or_of_lt hb]
  exact IntWalk.u32_in _ (by omega)
theorem and63 (x : Nat) (h : x < 2 ^ 32) : IntKind.u32.wrap ((BitVec.ofInt IntKind.u32.bits (x : Int) &&& BitVec.ofInt IntKind.u32.bits 63).toNat : Nat) = ((x % 64 : Nat) : Int) := by
  have hw : (BitVec.ofInt IntKind.u32.bits (x : Int)).toNat = x := by
    show (BitVec.ofInt 32 (x : Int)).toNat = x
    rw [BitVec.toNat_ofInt]; omega
  have h63 : (BitVec.ofInt IntKind.u32.bits 63).toNat = 2 ^ 6 - 1 := by decide
  rw [BitVec.toNat_and, hw, h63, Nat.and_two_pow_sub_one_eq_mod]
  exact IntWalk.u32_in _ (by omega)
theorem word24 (a b c : Nat) (ha : a < 256) (hb : b < 256) (hc : c < 256) :
    IntKind.u32.wrap ((BitVec.ofInt IntKind.u32.bits (IntKind.u32.wrap ((BitVec.ofInt IntKind.u32.bits (IntKind.u32.wrap ((a : Int) * (2 ^ 16 : Nat))) ||| BitVec.ofInt IntKind.u32.bits (IntKind.u32.wrap ((b : Int) * (2 ^ 8 : Nat)))).toNat : Nat)) |||
      BitVec.ofInt IntKind.u32.bits (c : Int)).toNat : Nat) = ((a * 65536 + b * 256 + c : Nat) : Int) := by
  have e1 : IntKind.u32.wrap ((a : Int) * (2 ^ 16 : Nat)) = ((2 ^ 16 * a : Nat) : Int) := by rw [IntWalk.u32_in _ (by omega)]; omega
  have e2 : IntKind.u32.wrap ((b : Int) * (2 ^ 8 : Nat)) = ((b * 256 : Nat) : Int) := by rw [IntWalk.u32_in _ (by omega)]; omega
  rw [e1, e2, or32 16 a (b * 256) (by omega) (by omega)]
  have e3 : 2 ^ 16 * a + b * 256 = 2 ^ 8 * (256 * a + b) := by omega
  rw [e3, or32 8 _ c (by omega) (by omega)]
  omega
theorem word_cut (w k : Nat) (hw : w < 16777216) : IntKind.u32.wrap ((BitVec.ofInt IntKind.u32.bits ((w : Int) / (2 ^ (18 - 6 * k) : Nat)) &&& BitVec.ofInt IntKind.u32.bits 63).toNat : Nat) = ((w / 2 ^ (18 - 6 * k) % 64 : Nat) : Int) := by
  have e : (w : Int) / (2 ^ (18 - 6 * k) : Nat) = ((w / 2 ^ (18 - 6 * k) : Nat) : Int) := (Int.natCast_ediv _ _).symm
  rw [e]
  exact and63 _ (Nat.lt_of_le_of_lt (Nat.div_le_self _ _) (by omega))
theorem low6 : ∀ c : Fin 256, 2 * (2 * (2 * (2 * (2 * (2 * 0 + c.val / 32 % 2) + c.val / 16 % 2) + c.val / 8 % 2) + c.val / 4 % 2) + c.val / 2 % 2) + c.val % 2 = c.val % 64 := by decide +kernel
theorem six_bits (a b c f0 f1 f2 f3 f4 f5 : Nat) (k : Nat) (hk : k < 4) (ha : a < 256) (hb : b < 256) (hc : c < 256)
    (h : (k = 0 ∧ f0 = a / 128 % 2 ∧ f1 = a / 64 % 2 ∧ f2 = a / 32 % 2 ∧ f3 = a / 16 % 2 ∧ f4 = a / 8 % 2 ∧ f5 = a / 4 % 2) ∨ (k = 1 ∧ f0 = a / 2 % 2 ∧ f1 = a / 1 % 2 ∧ f2 = b / 128 % 2 ∧ f3 = b / 64 % 2 ∧ f4 = b / 32 % 2 ∧ f5 = b / 16 % 2) ∨
      (k = 2 ∧ f0 = b / 8 % 2 ∧ f1 = b / 4 % 2 ∧ f2 = b / 2 % 2 ∧ f3 = b / 1 % 2 ∧ f4 = c / 128 % 2 ∧ f5 = c / 64 % 2) ∨ (k = 3 ∧ f0 = c / 32 % 2 ∧ f1 = c / 16 % 2 ∧ f2 = c / 8 % 2 ∧ f3 = c / 4 % 2 ∧ f4 = c / 2 % 2 ∧ f5 = c / 1 % 2)) :
    2 * (2 * (2 * (2 * (2 * (2 * 0 + f0) + f1) + f2) + f3) + f4) + f5 = (a * 65536 + b * 256 + c) / 2 ^ (18 - 6 * k) % 64 := by
  rcases h with ⟨rfl, rfl, rfl, rfl, rfl, rfl, rfl⟩ | ⟨rfl, rfl, rfl, rfl, rfl, rfl, rfl⟩ | ⟨rfl, rfl, rfl, rfl, rfl, rfl, rfl⟩ | ⟨rfl, rfl, rfl, rfl, rfl, rfl, rfl⟩
  · omega
  · omega
  · omega
  · have e : (a * 65536 + b * 256 + c) / 2 ^ (18 - 6 * 3) % 64 = c % 64 := by
      show (a * 65536 + b * 256 + c) / 1 % 64 = _
      rw [Nat.div_one]; omega
    rw [e, Nat.div_one]
    exact low6 ⟨c, hc⟩
theorem bit_of {s : List UInt8} {q k j i r : Nat} (e : 6 * k + j = 8 * i + r) (hr : r < 8) : bitAt s (8 * (3 * q) + 6 * k + j) = byteAt s (3 * q + i) / 2 ^ (7 - r) % 2 := by
  rw [bitAt, show (8 * (3 * q) + 6 * k + j) / 8 = 3 * q + i from by omega, show (8 * (3 * q) + 6 * k + j) % 8 = r from by omega]
theorem six_word (s : List UInt8) (q k : Nat) (hk : k < 4) :
    six s (8 * (3 * q) + 6 * k) 6 = (byteAt s (3 * q) * 65536 + byteAt s (3 * q + 1) * 256 + byteAt s (3 * q + 2)) / 2 ^ (18 - 6 * k) % 64 := by
  refine six_bits (byteAt s (3 * q)) (byteAt s (3 * q + 1)) (byteAt s (3 * q + 2)) _ _ _ _ _ _ k hk (byteAt_lt _ _) (byteAt_lt _ _) (byteAt_lt _ _) ?_
  obtain rfl | rfl | rfl | rfl : k = 0 ∨ k = 1 ∨ k = 2 ∨ k = 3 := by omega
  · exact .inl ⟨rfl, bit_of (i := 0) (r := 0) rfl (by decide), bit_of (i := 0) (r := 1) rfl (by decide), bit_of (i := 0) (r := 2) rfl (by decide), bit_of (i := 0) (r := 3) rfl (by decide), bit_of (i := 0) (r := 4) rfl (by decide), bit_of (i := 0) (r := 5) rfl (by decide)⟩
  · exact .inr (.inl ⟨rfl, bit_of (i := 0) (r := 6) rfl (by decide), bit_of (i := 0) (r := 7) rfl (by decide), bit_of (i := 1) (r := 0) rfl (by decide), bit_of (i := 1) (r := 1) rfl (by decide), bit_of (i := 1) (r := 2) rfl (by decide), bit_of (i := 1) (r := 3) rfl (by decide)⟩)
  · exact .inr (.inr (.inl ⟨rfl, bit_of (i := 1) (r := 4) rfl (by decide), bit_of (i := 1) (r := 5) rfl (by decide), bit_of (i := 1) (r := 6) rfl (by decide), bit_of (i := 1) (r := 7) rfl (by decide), bit_of (i := 2) (r := 0) rfl (by decide), bit_of (i := 2) (r := 1) rfl (by decide)⟩))
  · exact .inr (.inr (.inr ⟨rfl, bit_of (i := 2) (r := 2) rfl (by decide), bit_of (i := 2) (r := 3) rfl (by decide), bit_of (i := 2) (r := 4) rfl (by decide), bit_of (i := 2) (r := 5) rfl (by decide), bit_of (i := 2) (r := 6) rfl (by decide), bit_of (i := 2) (r := 7) rfl (by decide)⟩))
theorem Tr.perm {P : Program} {f : FuncId} {args : List Value} {m : Imm} {own own2 : Own} {Φ : Value → Imm → Own → Prop} (hp : List.Perm own2 own) (h : Tr P f args m own Φ) : Tr P f args m own2 Φ := by
  intro w hi
  have hk : ∀ b, b ∈ keys own ↔ b ∈ keys own2 := fun b => ⟨fun x => ((hp.flatten.map (·.1)).symm.subset x), fun x => ((hp.flatten.map (·.1)).subset x)⟩
  have hi2 : Inv m own w := ⟨hi.imm, fun p hq => hi.mine p (hp.flatten.symm.subset hq), fun p hq => hi.dis p (hp.flatten.symm.subset hq), ((hp.flatten.map _).nodup_iff).1 hi.nd⟩
  refine (h w hi2).mono ?_
  rintro e w' ⟨v, m', own', rfl, hΦ, st⟩
  exact ⟨v, m', own', rfl, hΦ, st.inv, st.os, st.tape, st.output, st.size, fun b hb hn => st.keep b hb (fun x => hn ((hk b).1 x)), st.le, fun b hb => (st.newm b hb).imp id (fun x => x.imp (hk b).1 id), fun b hb => (st.newo b hb).imp (hk b).1 id⟩
theorem WK.known {P : Program} {E : Env} {n : Nat} {ds : List Deferred} {m : Imm} {own : Own} {ρ : Nat → Value} {e : Exit} {ks : List Kt} (sl : List (Nat × Value)) (h : Slots ρ sl) (hk : WK P E n ds m own (upds sl ρ) e ks) : WK P E n ds m own ρ e ks := by
  rw [upds_same h] at hk; exact hk
theorem yield1 {rec : Loop} {p : Tmp} {v : Value} {n : Nat} (hp : rec.params = #[p]) (hs : rec.tmps.size = n) (hlt : Nat.blt p n = true) :
    (yieldTmps rec [v]).size = n ∧ (yieldTmps rec [v]).getD p undef = v ∧ ∀ i, Nat.beq i p = false → (yieldTmps rec [v]).getD i undef = rec.tmps.getD i undef := by
  have hlt' : p < n := by simpa [Nat.blt_eq] using hlt
  have e : yieldTmps rec [v] = rec.tmps.setIfInBounds p v := by simp [yieldTmps, hp]
  refine ⟨by rw [e]; simp [hs], ?_, fun i hi => ?_⟩
  · rw [e, Array.getD_eq_getD_getElem?, Array.getElem?_setIfInBounds, if_pos rfl, if_pos (by rw [hs]; exact hlt')]; rfl
  · have : p ≠ i := fun h => by subst h; rw [Nat.beq_refl] at hi; cases hi
    rw [e, Array.getD_eq_getD_getElem?, Array.getD_eq_getD_getElem?, Array.getElem?_setIfInBounds, if_neg this]

theorem rest_drop (w : Nat) (s : List UInt8) : ∀ i, rest w s i = s.drop (w * i)
  | 0 => rfl
  | i + 1 => by rw [rest, rest_drop w s i, List.drop_drop]; congr 1
theorem byteAt_cut {s : List UInt8} {q j : Nat} (h : j < ((s.drop (3 * q)).take 3).length) : ((s.drop (3 * q)).take 3)[j].toNat = byteAt s (3 * q + j) := by
  rw [List.getElem_take, List.getElem_drop]
  simp only [List.length_take, List.length_drop] at h
  simp [byteAt, List.getD, List.getElem?_eq_getElem (show 3 * q + j < s.length by omega)]
theorem arr3 {s : List UInt8} {q : Nat} : setAt #[.int .u8 0, .int .u8 0, .int .u8 0] 0 (((s.drop (3 * q)).take 3).map byt) = #[.int .u8 (byteAt s (3 * q) : Nat), .int .u8 (byteAt s (3 * q + 1) : Nat), .int .u8 (byteAt s (3 * q + 2) : Nat)] := by
  have hl : ((s.drop (3 * q)).take 3).length ≤ 3 := by simp; omega
  apply Array.ext_getElem?
  intro i
  rw [setAt_get _ _ _ _ (by simpa using hl)]
  simp only [Nat.zero_le, true_and, Nat.zero_add, List.length_map, Nat.sub_zero]
  by_cases hi : i < ((s.drop (3 * q)).take 3).length
  · rw [if_pos hi, List.getElem?_map, List.getElem?_eq_getElem hi]
    have hb := byteAt_cut hi
    have hi3 : i < 3 := by omega
    obtain rfl | rfl | rfl : i = 0 ∨ i = 1 ∨ i = 2 := by omega
    all_goals simp only [Option.map_some, byt, hb]; rfl
  · rw [if_neg hi]
    have hn : ∀ j, i ≤ j → j < 3 → byteAt s (3 * q + j) = 0 := fun j h1 h2 => byteAt_none (by simp only [List.length_take, List.length_drop] at hi; omega)
    by_cases hi3 : i < 3
    · have hb := hn i (Nat.le_refl _) hi3
      obtain rfl | rfl | rfl : i = 0 ∨ i = 1 ∨ i = 2 := by omega
      all_goals simp [hb]
      all_goals (first | rfl | (rw [show byteAt s (3 * q) = 0 from hb]; rfl))
    · rw [Array.getElem?_eq_none (by simp; omega), Array.getElem?_eq_none (by simp; omega)]
theorem senc_pu (s : List UInt8) (hs : s.length ≤ 10000000) : Pu Tryd.prog 40 [str s] (str (encTo s ((s.length + 2) / 3))) := by
  refine Pu.of_tr ?_
  refine Tr.ofM Tryd.func40 Tryd.ntmps40 rfl rfl fun w => ?_
  refine WK.seq ?_
  refine WK.region ?_
  refine WL.asC rfl ?_
  refine WL.nil ?_
  refine WK.seq ?_
  refine WK.region ?_
  refine WL.alloc rfl fun b3 => ?_
  refine WL.nil ?_
  refine WK.seq ?_
  refine WK.seq ?_
  refine WK.region ?_
  refine WL.mvS rfl rfl ?_
  refine WL.call (slines_tr _ s 3 (by omega)) rfl rfl rfl .none ?_
  rintro u m1 back hle ⟨hm1, b2, b9, hu, hb⟩; subst m1; subst hu; subst hb
  refine WL.nil ?_
  refine WK.block ?_
  -- range
  refine WK.range rfl rfl fun D l rec h1 h2 hps has hbd hsz htm => ?_
  have hrec : ({ { rec with state := .busy } with state := .ready, pending := none } : Loop) = rec := by cases rec; simp at h1 h2; subst h1; subst h2; rfl
  refine ⟨_, _, _, Lend.all _, Tr.perm (own := [(b9, .cells #[.int .i64 (3 : Nat)] 3 (0, 0))] :: [(b2, .cells #[str s] 9 (0, 0))] :: [(l, .loop rec)] :: [(D, .deferred (some []))] :: [[(b3, .cells (Value.agg #[.pointer none, .slice none 0 0]).cells 50 (0, 0))]]) ?_
    (slinesF_tr (rec := rec) (by rw [hps]; rfl) (by omega) (by omega) (by omega) (fun i m own => m = (fun _ => none) ∧ i ≤ (s.length + 2) / 3 ∧ ∃ blk, own = [[(l, .loop rec)], [(D, .deferred (some []))], blk] ∧ IsB blk b3 (encTo s i)) ?_ ?_ ?_), ?_⟩
  · exact List.Perm.append_right [_] (List.perm_append_comm (l₁ := [_, _]) (l₂ := [_, _]))
  · rintro i m own ⟨_, _, blk, rfl, _⟩; simp
  · rintro q m own hne ⟨rfl, hq, blk, rfl, hB⟩
    rw [has, hbd, rest_drop]
    rw [rest_drop] at hne
    have hlt : 3 * q < s.length := by
      rcases Nat.lt_or_ge (3 * q) s.length with h | h
      · exact h
      · exact absurd (List.drop_eq_nil_of_le h) hne
    obtain ⟨y1, y2, y3⟩ := yield1 (v := str ((s.drop (3 * q)).take 3)) hps hsz rfl
    have hpl : ((s.drop (3 * q)).take 3).length = min 3 (s.length - 3 * q) := by simp
    have hb0 := byteAt_lt s (3 * q)
    have hb1 := byteAt_lt s (3 * q + 1)
    have hb2 := byteAt_lt s (3 * q + 2)
    refine RTr.of y1 (G := Unit) (fun _ => [(4, str ((s.drop (3 * q)).take 3)), (3, .pointer (some ⟨b3, 0, none⟩))]) (fun _ => fun _ => none) (fun _ => [[(l, .loop rec)], [(D, .deferred (some []))], blk]) (fun _ => True) ?_ ?_
    · intro w
      refine WK.known [(11, str ((s.drop (3 * q)).take 3)), (3, .pointer (some ⟨b3, 0, none⟩))] ⟨y2, (y3 3 rfl).trans (htm 3), trivial⟩ ?_
      refine WK.region ?_
      refine WL.asS rfl rfl ?_
      refine WL.nil ?_
      -- again
      exact WK.met () trivial ⟨rfl, rfl, trivial⟩ rfl rfl
    · rintro w _ ρ _
      refine ⟨rec, _, h1, .here, ?_⟩
      refine WK.block ?_
      refine WK.seq ?_
      refine WK.region ?_
      refine WL.alloc rfl fun b5 => ?_
      refine WL.nil ?_
      refine WK.seq ?_
      refine WK.region ?_
      refine WL.sliceArr rfl rfl ?_
      refine WL.mvS rfl rfl ?_
      -- op builtin copy
      refine WL.copyS (k := 3) rfl rfl rfl (by rw [hpl]; omega) (by decide) .here ?_
      refine WL.flat (own' := [[(b5, .cells #[.int .u8 (byteAt s (3 * q) : Nat), .int .u8 (byteAt s (3 * q + 1) : Nat), .int .u8 (byteAt s (3 * q + 2) : Nat)] 77 (0, 0))], [(l, .loop { rec with state := .busy })], [(D, .deferred (some []))], blk]) (by rw [← arr3]; rfl) ?_
      refine WL.asI rfl rfl ?_
      refine WL.nil ?_
      refine WK.seq ?_
      refine WK.region ?_
      refine WL.indexArr (j := 0) rfl rfl rfl rfl rfl ?_
      refine WL.load1O rfl rfl (by first | exact .here | exact .there .here | exact .there (.there .here) | exact .there (.there (.there .here)) | exact .there (.there (.there (.there .here))) | exact .there (.there (.there (.there (.there .here))))) (show _ = some (.int _ _) from rfl) ?_
      refine WL.convIe (b := ((byteAt s (3 * q) : Nat) : Int)) rfl rfl (IntWalk.u32_in _ (by omega)) ?_
      refine WL.shl 16 rfl rfl rfl rfl rfl ?_
      refine WL.indexArr (j := 1) rfl rfl rfl rfl rfl ?_
      refine WL.load1O rfl rfl (by first | exact .here | exact .there .here | exact .there (.there .here) | exact .there (.there (.there .here)) | exact .there (.there (.there (.there .here))) | exact .there (.there (.there (.there (.there .here))))) (show _ = some (.int _ _) from rfl) ?_
      refine WL.convIe (b := ((byteAt s (3 * q + 1) : Nat) : Int)) rfl rfl (IntWalk.u32_in _ (by omega)) ?_
      refine WL.shl 8 rfl rfl rfl rfl rfl ?_
      refine WL.orW rfl rfl rfl ?_
      refine WL.indexArr (j := 2) rfl rfl rfl rfl rfl ?_
      refine WL.load1O rfl rfl (by first | exact .here | exact .there .here | exact .there (.there .here) | exact .there (.there (.there .here)) | exact .there (.there (.there (.there .here))) | exact .there (.there (.there (.there (.there .here))))) (show _ = some (.int _ _) from rfl) ?_
      refine WL.convIe (b := ((byteAt s (3 * q + 2) : Nat) : Int)) rfl rfl (IntWalk.u32_in _ (by omega)) ?_
      refine WL.orW rfl rfl rfl ?_
      refine WL.asI rfl rfl ?_
      refine WL.nil ?_
      refine WK.seq ?_
      refine WK.region ?_
      refine WL.mvC rfl ?_
      refine WL.nil ?_
      refine WK.block ?_
      -- loop
      refine WK.drop (.drop .refl) ?_
      refine WK.perm (own' := [blk, [(l, .loop { rec with state := .busy })], [(D, .deferred (some []))]]) (List.perm_append_comm (l₁ := [_, _]) (l₂ := [_])) ?_
      have hwl : byteAt s (3 * q) * 65536 + byteAt s (3 * q + 1) * 256 + byteAt s (3 * q + 2) < 16777216 := by omega
      refine WK.loop (G := Nat × Bun) (fun g => [(28, .int .i64 (g.1 : Nat)), (3, .pointer (some ⟨b3, 0, none⟩)), (6, .int .i64 (((s.drop (3 * q)).take 3).length : Nat)), (7, .int .u32 ((byteAt s (3 * q) * 65536 + byteAt s (3 * q + 1) * 256 + byteAt s (3 * q + 2) : Nat) : Int))]) (fun _ => fun _ => none) (fun g => [g.2, [(l, .loop { rec with state := .busy })], [(D, .deferred (some []))]])
        (fun g => g.1 ≤ 4 ∧ IsB g.2 b3 (encTo s q ++ enc4 s (3 * q) g.1)) (fun g => 4 - g.1) (0, blk) ⟨by simp, by simpa [enc4] using hB⟩ ⟨rfl, rfl, rfl, congrArg (Value.int .u32) (word24 _ _ _ hb0 hb1 hb2), trivial⟩ rfl rfl ?_
      rintro ⟨k, bk⟩ ρ ⟨hk, hB⟩
      replace hk : k ≤ 4 := hk
      replace hB : IsB bk b3 (encTo s q ++ enc4 s (3 * q) k) := hB
      have hlen : (encTo s q ++ enc4 s (3 * q) k).length ≤ 1000000000 := by rw [List.length_append, encTo_len, enc4_len]; omega
      have hstep : encTo s q ++ enc4 s (3 * q) (k + 1) = (encTo s q ++ enc4 s (3 * q) k) ++ [ch4 s (3 * q) k] := by rw [enc4, List.append_assoc]
      generalize hX : encTo s q ++ enc4 s (3 * q) k = X at *
      refine WK.seq ?_
      refine WK.region ?_
      refine WL.lss rfl rfl rfl ?_
      refine WL.nil ?_
      refine WK.seq ?_
      -- cond
      refine WK.cond rfl (fun h5 => ?_) (fun h5 => ?_)
      · have hk4 : k < 4 := by simp at h5; omega
        refine WK.skip ?_
        refine WK.seq ?_
        refine WK.block ?_
        refine WK.seq ?_
        refine WK.region ?_
        refine WL.mvI rfl rfl ?_
        refine WL.asI rfl rfl ?_
        refine WL.nil ?_
        refine WK.seq ?_
        refine WK.region ?_
        refine WL.mvI rfl rfl ?_
        refine WL.mvI rfl rfl ?_
        refine WL.gtr rfl rfl rfl ?_
        refine WL.nil ?_
        -- cond
        refine WK.cond rfl (fun h6 => ?_) (fun h6 => ?_)
        · have hch : ch4 s (3 * q) k = 61 := by rw [ch4, if_pos (by simp at h6; omega)]
          refine WK.region ?_
          refine WL.call (writeByte_tr _ hB 61 hlen) rfl rfl rfl (.here .none) ?_
          rintro u m1 back hle ⟨hm1, bk1, hbk1, hB1⟩; subst m1; subst hbk1
          refine WL.nil ?_
          refine WK.blk ?_
          refine WK.region ?_
          refine WL.add rfl rfl rfl (by omega) ?_
          refine WL.mvI rfl rfl ?_
          refine WL.nil ?_
          -- again
          refine WK.again (k + 1, bk1) ⟨by show k + 1 ≤ 4; omega, ?_⟩ (by show 4 - (k + 1) < 4 - k; omega) ⟨rfl, rfl, rfl, rfl, trivial⟩ rfl rfl
          show IsB bk1 b3 (encTo s q ++ enc4 s (3 * q) (k + 1))
          rw [hstep, hch]
          exact hB1
        · skip
          have hch : ch4 s (3 * q) k = alphaL.getD (six s (8 * (3 * q) + 6 * k) 6) 0 := by rw [ch4, if_neg (by simp at h6; omega)]
          have hsl := six_lt s (8 * (3 * q) + 6 * k) 6
          refine WK.region ?_
          refine WL.mvI rfl rfl ?_
          refine WL.mvI rfl rfl ?_
          refine WL.mul rfl rfl rfl (by omega) ?_
          refine WL.sub rfl rfl rfl (by omega) ?_
          refine WL.shr (18 - 6 * k) rfl rfl rfl (by omega) (by simp [IntKind.bits]; omega) ?_
          refine WL.andW rfl rfl rfl ?_
          refine WL.indexS rfl rfl rfl ((word_cut _ k hwl).trans (congrArg (fun n : Nat => (n : Int)) (six_word s q k hk4).symm)) (alpha_get (by omega)) ?_
          refine WL.call (writeByte_tr _ hB _ hlen) rfl rfl rfl (.here .none) ?_
          rintro u m1 back hle ⟨hm1, bk1, hbk1, hB1⟩; subst m1; subst hbk1
          refine WL.nil ?_
          refine WK.blk ?_
          refine WK.region ?_
          refine WL.add rfl rfl rfl (by omega) ?_
          refine WL.mvI rfl rfl ?_
          refine WL.nil ?_
          -- again
          refine WK.again (k + 1, bk1) ⟨by show k + 1 ≤ 4; omega, ?_⟩ (by show 4 - (k + 1) < 4 - k; omega) ⟨rfl, rfl, rfl, rfl, trivial⟩ rfl rfl
          show IsB bk1 b3 (encTo s q ++ enc4 s (3 * q) (k + 1))
          rw [hstep, hch]
          exact hB1
      · skip
        obtain rfl : k = 4 := by simp at h5; omega
        refine WK.exit ?_
        refine WK.exit_code ?_
        refine WK.exit_lp ?_
        refine WK.exit_hit ?_
        refine WK.blk ?_
        -- end
        refine WK.perm (own' := [[(l, .loop { rec with state := .busy })], [(D, .deferred (some []))], bk]) (List.perm_append_comm (l₁ := [_]) (l₂ := [_, _])) ?_
        refine WK.endRound .here ⟨rfl, rfl, by omega, bk, by rw [hrec], ?_⟩
        show IsB bk b3 (encTo s q ++ enc4 s (3 * q) 4)
        rw [hX]
        exact hB
  · exact ⟨rfl, by omega, _, rfl, IsB.new b3⟩
  · rintro v m2 back hle ⟨i, own1, hnil, ⟨rfl, hi, blk, rfl, hB⟩, rfl⟩
    refine ⟨rec, _, by rw [h1]; decide, h2, .there (.there .here), ?_⟩
    have hi2 : i = (s.length + 2) / 3 := by
      rw [rest_drop] at hnil
      have := List.drop_eq_nil_iff.1 hnil
      omega
    have hel := encTo_len s i
    refine WK.drop (own' := [[(D, .deferred (some []))], blk]) (.drop (.drop (.drop .refl))) ?_
    refine WK.blk ?_
    refine WK.seq ?_
    refine WK.region ?_
    refine WL.call (string_tr _ hB (by omega)) rfl rfl rfl (.there (.here .none)) ?_
    rintro u m1 back hle ⟨hu1, hm1, hbk1⟩; subst m1; subst hu1; subst hbk1
    refine WL.asS rfl rfl ?_
    refine WL.nil ?_
    refine WK.ret ?_
    -- end
    refine WK.unmark .here ?_
    refine WK.end1 rfl (show _ = str _ from rfl) ?_
    rw [hi2]
end Go.SL
