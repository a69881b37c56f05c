/- The reference's sixbit encoding, bit by bit: contracts. -/
import Derived.Test.YtbigjpjmdkgjmaaDoorClo
namespace Go.SL
open Go Go.Proofs
set_option linter.unusedVariables false
set_option linter.unusedSimpArgs false

def bitAt (s : List UInt8) (i : Nat) : Nat := byteAt s (i / 8) / 2 ^ (7 - i % 8) % 2
theorem byteAt_none {s : List UInt8} {k : Nat} (h : s.length ≤ k) : byteAt s k = 0 := by
  simp [byteAt, List.getD, List.getElem?_eq_none h]
theorem bit_pu (s : List UInt8) (i : Nat) (hs : s.length ≤ 1000000000) (hi : i ≤ 100000000000) : Pu Tryd.prog 52 [str s, .int .i64 (i : Nat)] (.int .i64 (bitAt s i : Nat)) := by
  refine Pu.of Tryd.func52 Tryd.ntmps52 rfl rfl fun w => ?_
  refine WK.seq ?_
  refine WK.region ?_
  refine WL.asC rfl ?_
  refine WL.nil ?_
  refine WK.seq ?_
  refine WK.seq ?_
  refine WK.region ?_
  refine WL.mvI rfl rfl ?_
  refine WL.quo rfl rfl rfl (by omega) (by omega) (by omega) ?_
  refine WL.mvS rfl rfl ?_
  refine WL.lenS rfl rfl ?_
  refine WL.geq rfl rfl rfl ?_
  refine WL.nil ?_
  -- cond
  refine WK.cond rfl (fun h1 => ?_) (fun h1 => ?_)
  · refine WK.seq ?_
    refine WK.region ?_
    refine WL.asC rfl ?_
    refine WL.nil ?_
    refine WK.ret ?_
    refine WK.ret_code ?_
    -- end
    refine WK.end1 rfl (show _ = .int _ _ from rfl) ?_
    have : s.length ≤ i / 8 := by simp at h1; omega
    rw [bitAt, byteAt_none this, Nat.zero_div]; rfl
  · skip
    have hlt : i / 8 < s.length := by simp at h1; omega
    have hb := byteAt_lt s (i / 8)
    refine WK.skip ?_
    refine WK.seq ?_
    refine WK.region ?_
    refine WL.mvS rfl rfl ?_
    refine WL.mvI rfl rfl ?_
    refine WL.quo rfl rfl rfl (by omega) (by omega) (by omega) ?_
    refine WL.indexS rfl rfl rfl (show _ = ((i / 8 : Nat) : Int) from rfl) (byteAt_get hlt).1 ?_
    refine WL.convIe rfl rfl (wrap_at (byteAt_get hlt).2) ?_
    refine WL.mvI rfl rfl ?_
    refine WL.rem rfl rfl rfl (by omega) (by omega) ?_
    refine WL.sub rfl rfl rfl (by omega) ?_
    refine WL.convIe (b := ((7 - i % 8 : Nat) : Int)) rfl rfl (by rw [IntWalk.u64_in _ (by omega)]; omega) ?_
    refine WL.shr (7 - i % 8) rfl rfl rfl rfl (by simp [IntKind.bits]; omega) ?_
    refine WL.rem rfl rfl rfl (by exact Int.ediv_nonneg (Int.natCast_nonneg _) (Int.natCast_nonneg _)) (by omega) ?_
    refine WL.asI rfl rfl ?_
    refine WL.nil ?_
    refine WK.ret ?_
    -- end
    refine WK.end1 rfl (show _ = .int _ _ from rfl) ?_
    rfl

theorem bit_at {s : List UInt8} {x : Int} (i : Nat) (hx : x = (i : Nat)) (hs : s.length ≤ 1000000000) (hi : i ≤ 100000000000) : Pu Tryd.prog 52 [str s, .int .i64 x] (.int .i64 (bitAt s i : Nat)) := hx ▸ bit_pu s i hs hi
def alphaL : List UInt8 := [65, 66, 67, 68, 69, 70, 71, 72, 73, 74, 75, 76, 77, 78, 79, 80, 81, 82, 83, 84, 85, 86, 87, 88, 89, 90, 97, 98, 99, 100, 101, 102, 103, 104, 105, 106, 107, 108, 109, 110, 111, 112, 113, 114, 115, 116, 117, 118, 119, 120, 121, 122, 48, 49, 50, 51, 52, 53, 54, 55, 56, 57, 43, 47]
theorem alpha_get {n : Nat} (h : n < 64) : ([65, 66, 67, 68, 69, 70, 71, 72, 73, 74, 75, 76, 77, 78, 79, 80, 81, 82, 83, 84, 85, 86, 87, 88, 89, 90, 97, 98, 99, 100, 101, 102, 103, 104, 105, 106, 107, 108, 109, 110, 111, 112, 113, 114, 115, 116, 117, 118, 119, 120, 121, 122, 48, 49, 50, 51, 52, 53, 54, 55, 56, 57, 43, 47] : List UInt8)[n]? = some (alphaL.getD n 0) := by
  have hl : alphaL.length = 64 := rfl
  show alphaL[n]? = _
  rw [List.getD_eq_getElem?_getD, List.getElem?_eq_getElem (by omega)]; rfl
def six (s : List UInt8) (f : Nat) : Nat → Nat
  | 0 => 0
  | k + 1 => 2 * six s f k + bitAt s (f + k)
theorem six_lt (s : List UInt8) (f : Nat) : ∀ k, six s f k < 2 ^ k
  | 0 => by simp [six]
  | k + 1 => by
    have ih := six_lt s f k
    have hb : bitAt s (f + k) < 2 := Nat.mod_lt _ (by decide)
    simp only [six, Nat.pow_succ]; omega
def ch4 (s : List UInt8) (i k : Nat) : UInt8 := if 8 * s.length ≤ 8 * i + 6 * k then 61 else alphaL.getD (six s (8 * i + 6 * k) 6) 0
def enc4 (s : List UInt8) (i : Nat) : Nat → List UInt8
  | 0 => []
  | k + 1 => enc4 s i k ++ [ch4 s i k]
def encTo (s : List UInt8) : Nat → List UInt8
  | 0 => []
  | q + 1 => encTo s q ++ enc4 s (3 * q) 4
theorem enc4_len (s : List UInt8) (i : Nat) : ∀ k, (enc4 s i k).length = k
  | 0 => rfl
  | k + 1 => by simp [enc4, enc4_len s i k]
theorem encTo_len (s : List UInt8) : ∀ q, (encTo s q).length = 4 * q
  | 0 => rfl
  | q + 1 => by simp [encTo, encTo_len s q, enc4_len]; omega
theorem renc_pu (s : List UInt8) (hs : s.length ≤ 100000000) : Pu Tryd.prog 29 [str s] (str (encTo s ((s.length + 2) / 3))) := by
  refine Pu.of Tryd.func29 Tryd.ntmps29 rfl rfl fun w => ?_
  refine WK.seq ?_
  refine WK.region ?_
  refine WL.asC rfl ?_
  refine WL.nil ?_
  refine WK.seq ?_
  refine WK.region ?_
  refine WL.asC rfl ?_
  refine WL.nil ?_
  refine WK.seq ?_
  refine WK.seq ?_
  refine WK.region ?_
  refine WL.asC rfl ?_
  refine WL.nil ?_
  refine WK.block ?_
  -- loop
  refine WK.flat (own' := [[]]) rfl ?_
  refine WK.loop (G := Nat × Value × Bun) (fun g => [(4, .int .i64 ((3 * g.1 : Nat) : Int)), (0, str s), (3, g.2.1)]) (fun _ _ => none) (fun g => [g.2.2])
    (fun g => g.1 ≤ (s.length + 2) / 3 ∧ OSl g.2.2 1 5 g.2.1 ((encTo s g.1).map byt)) (fun g => (s.length + 2) / 3 - g.1) (0, .slice none 0 0, []) ⟨by simp, OSl.nil _ _ _⟩ ⟨rfl, rfl, rfl, trivial⟩ rfl rfl ?_
  rintro ⟨q, v, bk⟩ ρ ⟨hq, hO⟩
  replace hq : q ≤ (s.length + 2) / 3 := hq
  replace hO : OSl bk 1 5 v ((encTo s q).map byt) := hO
  obtain ⟨a3, c3, hv3, _⟩ := hO.shape
  rw [List.length_map] at hv3
  subst hv3
  refine WK.seq ?_
  refine WK.seq ?_
  refine WK.region ?_
  refine WL.mvI rfl rfl ?_
  refine WL.mvS rfl rfl ?_
  refine WL.lenS rfl rfl ?_
  refine WL.lss rfl rfl rfl ?_
  refine WL.nil ?_
  -- cond
  refine WK.cond rfl (fun h => ?_) (fun h => ?_)
  · have hlt : 3 * q < s.length := by simp at h; omega
    refine WK.skip ?_
    refine WK.seq ?_
    refine WK.block ?_
    refine WK.seq ?_
    refine WK.region ?_
    refine WL.asC rfl ?_
    refine WL.nil ?_
    refine WK.block ?_
    -- loop
    refine WK.loop (G := Nat × Value × Bun) (fun g => [(5, .int .i64 (g.1 : Nat)), (4, .int .i64 ((3 * q : Nat) : Int)), (0, str s), (3, g.2.1)]) (fun _ _ => none) (fun g => [g.2.2])
      (fun g => g.1 ≤ 4 ∧ OSl g.2.2 1 5 g.2.1 ((encTo s q ++ enc4 s (3 * q) g.1).map byt)) (fun g => 4 - g.1) (0, _, _) ⟨by simp, by simpa [enc4] using hO⟩ ⟨rfl, rfl, rfl, rfl, trivial⟩ rfl rfl ?_
    rintro ⟨k, v2, bk2⟩ ρ ⟨hk, hO2⟩
    replace hk : k ≤ 4 := hk
    replace hO2 : OSl bk2 1 5 v2 ((encTo s q ++ enc4 s (3 * q) k).map byt) := hO2
    have hlen : (encTo s q ++ enc4 s (3 * q) k).length ≤ 1000000000 := by rw [List.length_append, encTo_len, enc4_len]; omega
    have hstep : encTo s q ++ enc4 s (3 * q) (k + 1) = (encTo s q ++ enc4 s (3 * q) k) ++ [ch4 s (3 * q) k] := by rw [enc4, List.append_assoc]
    generalize hX : encTo s q ++ enc4 s (3 * q) k = X at *
    obtain ⟨a5, c5, hv5, _⟩ := hO2.shape
    rw [List.length_map] at hv5
    subst hv5
    refine WK.seq ?_
    refine WK.seq ?_
    refine WK.region ?_
    refine WL.mvI rfl rfl ?_
    refine WL.lss rfl rfl rfl ?_
    refine WL.nil ?_
    -- cond
    refine WK.cond rfl (fun h2 => ?_) (fun h2 => ?_)
    · have hk4 : k < 4 := by simp at h2; omega
      refine WK.skip ?_
      refine WK.seq ?_
      refine WK.block ?_
      refine WK.seq ?_
      refine WK.region ?_
      refine WL.mvI rfl rfl ?_
      refine WL.mul rfl rfl rfl (by omega) ?_
      refine WL.mvI rfl rfl ?_
      refine WL.mul rfl rfl rfl (by omega) ?_
      refine WL.add rfl rfl rfl (by omega) ?_
      refine WL.asI rfl rfl ?_
      refine WL.nil ?_
      refine WK.seq ?_
      refine WK.seq ?_
      refine WK.region ?_
      refine WL.mvI rfl rfl ?_
      refine WL.mvS rfl rfl ?_
      refine WL.lenS rfl rfl ?_
      refine WL.mul rfl rfl rfl (by omega) ?_
      refine WL.geq rfl rfl rfl ?_
      refine WL.nil ?_
      -- cond
      refine WK.cond rfl (fun h3 => ?_) (fun h3 => ?_)
      · have hch : ch4 s (3 * q) k = 61 := by rw [ch4, if_pos (by simp at h3; omega)]
        refine WK.seq ?_
        refine WK.region ?_
        refine WL.mvL rfl rfl ?_
        refine WL.buildSlice rfl [byt 61] rfl rfl ⟨Fit.one rfl, trivial⟩ rfl fun b30 blk30 v30 hb30 hO30 => ?_
        obtain ⟨a30, c30, hv30, hc30⟩ := hO30.shape; subst hv30
        refine WL.append rfl rfl hO2 (by first | exact .here | exact .there .here | exact .there (.there .here) | exact .there (.there (.there .here)) | exact .there (.there (.there (.there .here))) | exact .there (.there (.there (.there (.there .here))))) rfl (hO30.sl fun p hp => .inr (At.mem (by first | exact .here | exact .there .here | exact .there (.there .here) | exact .there (.there (.there .here)) | exact .there (.there (.there (.there .here))) | exact .there (.there (.there (.there (.there .here))))) p hp)) rfl rfl (by simp; omega) _ (fun _ => (by first | exact .here | exact .there .here | exact .there (.there .here) | exact .there (.there (.there .here)) | exact .there (.there (.there (.there .here))) | exact .there (.there (.there (.there (.there .here)))))) fun v31 blk31 hO31 => ?_
        obtain ⟨a31, c31, hv31, hc31⟩ := hO31.shape; subst hv31
        refine WL.drop (.drop .refl) ?_
        refine WL.asL rfl rfl ?_
        refine WL.nil ?_
        refine WK.exit ?_
        refine WK.exit_code ?_
        refine WK.exit_hit ?_
        refine WK.region ?_
        refine WL.mvI rfl rfl ?_
        refine WL.add rfl rfl rfl (by omega) ?_
        refine WL.asI rfl rfl ?_
        refine WL.nil ?_
        -- again
        refine WK.again (k + 1, _, _) ⟨by show k + 1 ≤ 4; omega, ?_⟩ (by show 4 - (k + 1) < 4 - k; omega) ⟨rfl, rfl, rfl, rfl, trivial⟩ rfl rfl
        show OSl _ 1 _ _ ((encTo s q ++ enc4 s (3 * q) (k + 1)).map byt)
        rw [hstep, hch, List.map_append]
        exact hO31
      · skip
        have hch : ch4 s (3 * q) k = alphaL.getD (six s (8 * (3 * q) + 6 * k) 6) 0 := by rw [ch4, if_neg (by simp at h3; omega)]
        refine WK.skip ?_
        refine WK.seq ?_
        refine WK.region ?_
        refine WL.asC rfl ?_
        refine WL.nil ?_
        refine WK.seq ?_
        refine WK.seq ?_
        refine WK.region ?_
        refine WL.asC rfl ?_
        refine WL.nil ?_
        refine WK.block ?_
        -- loop
        refine WK.loop (G := Nat) (fun j => [(8, .int .i64 (j : Nat)), (7, .int .i64 (six s (8 * (3 * q) + 6 * k) j : Nat)), (6, .int .i64 ((8 * (3 * q) + 6 * k : Nat) : Int)), (5, .int .i64 (k : Nat)), (4, .int .i64 ((3 * q : Nat) : Int)), (0, str s), (3, .slice a5 X.length c5)]) (fun _ _ => none) (fun _ => [bk2])
          (fun j => j ≤ 6) (fun j => 6 - j) 0 (by omega) ⟨rfl, rfl, rfl, rfl, rfl, rfl, rfl, trivial⟩ rfl rfl ?_
        rintro j ρ hj
        replace hj : j ≤ 6 := hj
        have hsl := six_lt s (8 * (3 * q) + 6 * k) j
        have hpw : 2 ^ j ≤ 2 ^ 6 := Nat.pow_le_pow_right (by decide) hj
        refine WK.seq ?_
        refine WK.seq ?_
        refine WK.region ?_
        refine WL.mvI rfl rfl ?_
        refine WL.lss rfl rfl rfl ?_
        refine WL.nil ?_
        -- cond
        refine WK.cond rfl (fun h4 => ?_) (fun h4 => ?_)
        · have hj6 : j < 6 := by simp at h4; omega
          have hbl : bitAt s (8 * (3 * q) + 6 * k + j) < 2 := Nat.mod_lt _ (by decide)
          refine WK.skip ?_
          refine WK.seq ?_
          refine WK.block ?_
          refine WK.region ?_
          refine WL.mvI rfl rfl ?_
          refine WL.mul rfl rfl rfl (by omega) ?_
          refine WL.mvS rfl rfl ?_
          refine WL.mvI rfl rfl ?_
          refine WL.mvI rfl rfl ?_
          refine WL.add rfl rfl rfl (by omega) ?_
          refine WL.callp (bit_at (8 * (3 * q) + 6 * k + j) (by omega) (by omega) (by omega)) rfl rfl rfl ?_
          refine WL.add rfl rfl rfl (by omega) ?_
          refine WL.asI rfl rfl ?_
          refine WL.nil ?_
          refine WK.blk ?_
          refine WK.region ?_
          refine WL.mvI rfl rfl ?_
          refine WL.add rfl rfl rfl (by omega) ?_
          refine WL.asI rfl rfl ?_
          refine WL.nil ?_
          -- again
          exact WK.again (j + 1) (by omega) (by omega) ⟨rfl, rfl, rfl, rfl, rfl, rfl, rfl, trivial⟩ rfl rfl
        · skip
          obtain rfl : j = 6 := by simp at h4; omega
          refine WK.exit ?_
          refine WK.exit_code ?_
          refine WK.exit_lp ?_
          refine WK.exit_hit ?_
          refine WK.region ?_
          refine WL.mvL rfl rfl ?_
          refine WL.mvI rfl rfl ?_
          refine WL.indexS rfl rfl rfl rfl (alpha_get (by omega)) ?_
          refine WL.buildSlice rfl [(byt _)] rfl rfl ⟨Fit.one rfl, trivial⟩ rfl fun b47 blk47 v47 hb47 hO47 => ?_
          obtain ⟨a47, c47, hv47, hc47⟩ := hO47.shape; subst hv47
          refine WL.append rfl rfl hO2 (by first | exact .here | exact .there .here | exact .there (.there .here) | exact .there (.there (.there .here)) | exact .there (.there (.there (.there .here))) | exact .there (.there (.there (.there (.there .here))))) rfl (hO47.sl fun p hp => .inr (At.mem (by first | exact .here | exact .there .here | exact .there (.there .here) | exact .there (.there (.there .here)) | exact .there (.there (.there (.there .here))) | exact .there (.there (.there (.there (.there .here))))) p hp)) rfl rfl (by simp; omega) _ (fun _ => (by first | exact .here | exact .there .here | exact .there (.there .here) | exact .there (.there (.there .here)) | exact .there (.there (.there (.there .here))) | exact .there (.there (.there (.there (.there .here)))))) fun v48 blk48 hO48 => ?_
          obtain ⟨a48, c48, hv48, hc48⟩ := hO48.shape; subst hv48
          refine WL.drop (.drop .refl) ?_
          refine WL.asL rfl rfl ?_
          refine WL.nil ?_
          refine WK.blk ?_
          refine WK.region ?_
          refine WL.mvI rfl rfl ?_
          refine WL.add rfl rfl rfl (by omega) ?_
          refine WL.asI rfl rfl ?_
          refine WL.nil ?_
          -- again
          refine WK.again (k + 1, _, _) ⟨by show k + 1 ≤ 4; omega, ?_⟩ (by show 4 - (k + 1) < 4 - k; omega) ⟨rfl, rfl, rfl, rfl, trivial⟩ rfl rfl
          show OSl _ 1 _ _ ((encTo s q ++ enc4 s (3 * q) (k + 1)).map byt)
          rw [hstep, hch, List.map_append]
          exact hO48
    · skip
      obtain rfl : k = 4 := by simp at h2; omega
      refine WK.exit ?_
      refine WK.exit_code ?_
      refine WK.exit_lp ?_
      refine WK.exit_hit ?_
      refine WK.blk ?_
      refine WK.region ?_
      refine WL.mvI rfl rfl ?_
      refine WL.add rfl rfl rfl (by omega) ?_
      refine WL.asI rfl rfl ?_
      refine WL.nil ?_
      -- again
      refine WK.again (q + 1, _, _) ⟨by show q + 1 ≤ _; omega, ?_⟩ (by show _ - (q + 1) < _ - q; omega) ⟨by show Value.int _ _ = Value.int _ _; congr 1, rfl, rfl, trivial⟩ rfl rfl
      show OSl _ 1 _ _ ((encTo s q ++ enc4 s (3 * q) 4).map byt)
      rw [hX]
      exact hO2
  · skip
    have hk2 : q = (s.length + 2) / 3 := by simp at h; omega
    have hS2 : Sl (Rd (fun _ => none) [bk]) 1 (.slice a3 (encTo s q).length c3) ((encTo s q).map byt) := hO.sl fun p hp => .inr (At.mem .here p hp)
    refine WK.exit ?_
    refine WK.exit_code ?_
    refine WK.exit_lp ?_
    refine WK.exit_hit ?_
    refine WK.seq ?_
    refine WK.region ?_
    refine WL.mvL rfl rfl ?_
    refine WL.ofBytes rfl rfl hS2 ?_
    refine WL.asS rfl rfl ?_
    refine WL.nil ?_
    refine WK.ret ?_
    -- end
    refine WK.end1 rfl (show _ = str _ from rfl) ?_
    rw [hk2]
end Go.SL
