/- Figures of a byte, and quoted-printable: the program's functions and the reference's: contracts. -/
import Derived.Test.YtbigjpjmdkgjmaaDoorBld
import Derived.Test.YtbigjpjmdkgjmaaDoorSlBit
import Derived.Test.YtbigjpjmdkgjmaaDoorRef8
namespace Go.SL
open Go Go.Proofs
set_option linter.unusedVariables false
set_option linter.unusedSimpArgs false

def hexD (n : Nat) : UInt8 := if n < 10 then UInt8.ofNat (48 + n) else UInt8.ofNat (55 + n)
def hexL (c : UInt8) : List UInt8 := [hexD (c.toNat / 16), hexD (c.toNat % 16)]
theorem digits16 : ∀ j : Fin 16, ([48, 49, 50, 51, 52, 53, 54, 55, 56, 57, 65, 66, 67, 68, 69, 70] : List UInt8)[j.val]? = some (hexD j.val) := by decide
theorem digits16' {j : Nat} (h : j < 16) : ([48, 49, 50, 51, 52, 53, 54, 55, 56, 57, 65, 66, 67, 68, 69, 70] : List UInt8)[j]? = some (hexD j) := digits16 ⟨j, h⟩
set_option maxRecDepth 100000 in
theorem and15F : ∀ v : Fin 256, IntKind.u8.wrap ((BitVec.ofInt IntKind.u8.bits ((v.val : Nat) : Int) &&& BitVec.ofInt IntKind.u8.bits 15).toNat : Nat) = ((v.val % 16 : Nat) : Int) := by decide
theorem and15 (c : UInt8) : IntKind.u8.wrap ((BitVec.ofInt IntKind.u8.bits (c.toNat : Int) &&& BitVec.ofInt IntKind.u8.bits 15).toNat : Nat) = ((c.toNat % 16 : Nat) : Int) := and15F ⟨c.toNat, c.toNat_lt⟩
theorem digitA : ∀ n : Fin 16, n.val < 10 → Value.int .u8 (IntKind.u8.wrap (48 + (n.val : Int))) = byt (hexD n.val) := by
  intro n h
  have : ∀ n : Fin 16, n.val < 10 → IntKind.u8.wrap (48 + (n.val : Int)) = ((hexD n.val).toNat : Int) := by decide
  rw [this n h]; rfl
theorem digitB : ∀ n : Fin 16, ¬ n.val < 10 → Value.int .u8 (IntKind.u8.wrap (65 + (n.val : Int) - 10)) = byt (hexD n.val) := by
  intro n h
  have : ∀ n : Fin 16, ¬ n.val < 10 → IntKind.u8.wrap (65 + (n.val : Int) - 10) = ((hexD n.val).toNat : Int) := by decide
  rw [this n h]; rfl
theorem rdigit_pu (n : Nat) (hn : n < 16) : Pu Tryd.prog 79 [.int .i64 (n : Nat)] (byt (hexD n)) := by
  refine Pu.of Tryd.func79 Tryd.ntmps79 rfl rfl fun w => ?_
  refine WK.seq ?_
  refine WK.region ?_
  refine WL.asC rfl ?_
  refine WL.nil ?_
  refine WK.seq ?_
  refine WK.seq ?_
  refine WK.region ?_
  refine WL.mvI rfl rfl ?_
  refine WL.lss rfl rfl rfl ?_
  refine WL.nil ?_
  -- cond
  refine WK.cond rfl (fun h => ?_) (fun h => ?_)
  · refine WK.seq ?_
    refine WK.region ?_
    refine WL.mvI rfl rfl ?_
    refine WL.add rfl rfl rfl (by omega) ?_
    refine WL.convI rfl rfl ?_
    refine WL.asI rfl rfl ?_
    refine WL.nil ?_
    refine WK.ret ?_
    refine WK.ret_code ?_
    -- end
    refine WK.end1 rfl (show _ = .int _ _ from rfl) ?_
    exact digitA ⟨n, hn⟩ (by simp at h; show n < 10; omega)
  · skip
    refine WK.skip ?_
    refine WK.seq ?_
    refine WK.region ?_
    refine WL.mvI rfl rfl ?_
    refine WL.add rfl rfl rfl (by omega) ?_
    refine WL.sub rfl rfl rfl (by omega) ?_
    refine WL.convI rfl rfl ?_
    refine WL.asI rfl rfl ?_
    refine WL.nil ?_
    refine WK.ret ?_
    -- end
    refine WK.end1 rfl (show _ = .int _ _ from rfl) ?_
    exact digitB ⟨n, hn⟩ (by simp at h; show ¬ n < 10; omega)
theorem rdigit_at {i : Int} (n : Nat) (hi : i = (n : Nat)) (hn : n < 16) : Pu Tryd.prog 79 [.int .i64 i] (byt (hexD n)) := hi ▸ rdigit_pu n hn
theorem hex_len (l : List UInt8) : (l.flatMap hexL).length = 2 * l.length := by
  induction l with
  | nil => rfl
  | cons c l ih => simp [List.flatMap_cons, ih, hexL]; omega
theorem hex_succ {l : List UInt8} {k : Nat} (h : k < l.length) : (l.take (k + 1)).flatMap hexL = (l.take k).flatMap hexL ++ hexL l[k] := by
  rw [List.take_succ_eq_append_getElem h, List.flatMap_append]; simp [List.flatMap_cons]
theorem hex_pu (l : List UInt8) (hl : l.length ≤ 1000000000) : Pu Tryd.prog 68 [str l] (str (l.flatMap hexL)) := by
  refine Pu.of Tryd.func68 Tryd.ntmps68 rfl rfl fun w => ?_
  refine WK.seq ?_
  refine WK.region ?_
  refine WL.asC rfl ?_
  refine WL.nil ?_
  refine WK.seq ?_
  refine WK.region ?_
  refine WL.mvS rfl rfl ?_
  refine WL.lenS rfl rfl ?_
  refine WL.mul rfl rfl rfl (by omega) ?_
  refine WL.makeSlice0 rfl rfl rfl (c := 2 * l.length) (by simp) (by omega) (by omega) fun v9 blk9 hO9 => ?_
  obtain ⟨a9, c9, hv9, hc9⟩ := hO9.shape; subst hv9
  refine WL.asL rfl rfl ?_
  refine WL.nil ?_
  refine WK.seq ?_
  refine WK.seq ?_
  refine WK.region ?_
  refine WL.mvS rfl rfl ?_
  refine WL.toBytes rfl rfl fun v11 blk11 hO11 => ?_
  obtain ⟨a11, c11, hv11, hc11⟩ := hO11.shape; rw [List.length_map] at hv11 hc11; subst hv11
  refine WL.lenSl rfl rfl ?_
  refine WL.mvC rfl ?_
  refine WL.nil ?_
  refine WK.block ?_
  -- loop
  refine WK.loop (G := Nat × Value × Bun) (fun g => [(13, .int .i64 (g.1 : Nat)), (12, .int .i64 (l.length : Nat)), (11, .slice a11 l.length c11), (3, g.2.1)]) (fun _ _ => none) (fun g => [blk11, g.2.2])
    (fun g => g.1 ≤ l.length ∧ OSl g.2.2 1 5 g.2.1 (((l.take g.1).flatMap hexL).map byt)) (fun g => l.length - g.1) (0, _, _) ⟨by simp, by simpa using hO9⟩ ⟨rfl, rfl, rfl, rfl, trivial⟩ rfl rfl ?_
  rintro ⟨k, v, bk⟩ ρ ⟨hk, hO⟩
  replace hk : k ≤ l.length := hk
  replace hO : OSl bk 1 5 v (((l.take k).flatMap hexL).map byt) := hO
  have hX : ((l.take k).flatMap hexL).length ≤ 2 * 1000000000 := by rw [hex_len, List.length_take]; omega
  have hY := fun h => hex_succ (l := l) (k := k) h
  generalize hX2 : (l.take k).flatMap hexL = X at *
  obtain ⟨a3, c3, hv3, _⟩ := hO.shape
  rw [List.length_map] at hv3
  subst hv3
  have hS : Sl (Rd (fun _ => none) [blk11, bk]) 1 (.slice a11 l.length c11) (l.map byt) := hO11.sl fun p hp => .inr (At.mem .here p hp)
  refine WK.seq ?_
  refine WK.region ?_
  refine WL.lss rfl rfl rfl ?_
  refine WL.nil ?_
  refine WK.seq ?_
  -- cond
  refine WK.cond rfl (fun h => ?_) (fun h => ?_)
  · have hlt : k < l.length := by simpa using h
    have hc : (l.map byt)[k]? = some (byt l[k]) := by simp [hlt]
    refine WK.skip ?_
    refine WK.seq ?_
    refine WK.block ?_
    refine WK.seq ?_
    refine WK.region ?_
    refine WL.indexE rfl rfl hS rfl rfl hc fun p15 hp15 => ?_
    refine WL.load1 rfl rfl hp15 ?_
    refine WL.asI rfl rfl ?_
    refine WL.nil ?_
    -- draw
    refine WK.drawnQ 7 #[[], [], [1], [1, 2], [], [4], [4, 5], [1, 2, 3, 4, 5, 6], [0, 1, 2, 3, 4, 5, 6, 7], [0, 1, 2, 3, 4, 5, 6, 7, 8]] [0] rfl rfl rfl mixed_ok (by kernel_rfl) ?_
    refine WRL.late rfl rfl (fun K h => WL.mvL rfl rfl h) (fun blk K h => WL.mvL rfl rfl h) ?_
    refine WRL.cons rfl rfl (fun K h => WL.mvI rfl rfl h) rfl ?_
    refine WRL.cons rfl rfl (fun K h => WL.shr 4 rfl rfl rfl rfl rfl h) rfl ?_
    refine WRL.cons rfl rfl (fun K h => WL.indexS rfl rfl rfl (show _ = ((l[k].toNat / 16 : Nat) : Int) from rfl) (digits16' (by have := l[k].toNat_lt; omega)) h) rfl ?_
    refine WRL.cons rfl rfl (fun K h => WL.mvI rfl rfl h) rfl ?_
    refine WRL.cons rfl rfl (fun K h => WL.andW rfl rfl rfl h) rfl ?_
    refine WRL.cons rfl rfl (fun K h => WL.indexS rfl rfl rfl (and15 l[k]) (digits16' (by omega)) h) rfl ?_
    refine WRL.nil ⟨_, QStep.buildSlice rfl [(byt _), (byt _)] rfl rfl ⟨Fit.one rfl, Fit.one rfl, trivial⟩ rfl, ?_⟩
    rintro v24 m24 own24 ⟨hm24, b24, blk24, hb24, ho24, hO24⟩; subst m24; subst ho24; refine ⟨⟨rfl, _, rfl⟩, ?_⟩
    obtain ⟨a24, c24, hv24, hc24⟩ := hO24.shape; subst hv24
    refine WL.append rfl rfl hO (by first | exact .here | exact .there .here | exact .there (.there .here) | exact .there (.there (.there .here)) | exact .there (.there (.there (.there .here))) | exact .there (.there (.there (.there (.there .here))))) rfl (hO24.sl fun p hp => .inr (At.mem (by first | exact .here | exact .there .here | exact .there (.there .here) | exact .there (.there (.there .here)) | exact .there (.there (.there (.there .here))) | exact .there (.there (.there (.there (.there .here))))) p hp)) rfl rfl (by simp; omega) _ (fun _ => (by first | exact .here | exact .there .here | exact .there (.there .here) | exact .there (.there (.there .here)) | exact .there (.there (.there (.there .here))) | exact .there (.there (.there (.there (.there .here)))))) fun v25 blk25 hO25 => ?_
    obtain ⟨a25, c25, hv25, hc25⟩ := hO25.shape; subst hv25
    refine WL.drop (.drop .refl) ?_
    refine WL.asL rfl rfl ?_
    refine WL.nil ?_
    refine WK.blk ?_
    refine WK.region ?_
    refine WL.add rfl rfl rfl (by omega) ?_
    refine WL.mvI rfl rfl ?_
    refine WL.nil ?_
    -- again
    refine WK.again (k + 1, _, _) ⟨by show k + 1 ≤ _; omega, ?_⟩ (by show l.length - (k + 1) < l.length - k; omega) ⟨rfl, rfl, rfl, rfl, trivial⟩ rfl rfl
    show OSl _ 1 _ _ (((l.take (k + 1)).flatMap hexL).map byt)
    rw [hY hlt, List.map_append]
    exact hO25
  · skip
    have hk2 : k = l.length := by simp at h; omega
    have hS2 : Sl (Rd (fun _ => none) [blk11, bk]) 1 (.slice a3 X.length c3) (X.map byt) := hO.sl fun p hp => .inr (At.mem (.there .here) p hp)
    refine WK.exit ?_
    refine WK.exit_code ?_
    refine WK.exit_lp ?_
    refine WK.exit_hit ?_
    refine WK.seq ?_
    refine WK.region ?_
    refine WL.mvL rfl rfl ?_
    refine WL.ofBytes rfl rfl hS2 ?_
    refine WL.asS rfl rfl ?_
    refine WL.nil ?_
    refine WK.ret ?_
    -- end
    refine WK.end1 rfl (show _ = str _ from rfl) ?_
    subst hk2
    rw [← hX2, List.take_length]

theorem rhex_pu (l : List UInt8) (hl : l.length ≤ 1000000000) : Pu Tryd.prog 51 [str l] (str (l.flatMap hexL)) := by
  refine Pu.of Tryd.func51 Tryd.ntmps51 rfl rfl fun w => ?_
  refine WK.seq ?_
  refine WK.region ?_
  refine WL.asC rfl ?_
  refine WL.nil ?_
  refine WK.seq ?_
  refine WK.region ?_
  refine WL.asC rfl ?_
  refine WL.nil ?_
  refine WK.seq ?_
  refine WK.seq ?_
  refine WK.region ?_
  refine WL.asC rfl ?_
  refine WL.nil ?_
  refine WK.block ?_
  -- loop
  refine WK.flat (own' := [[]]) rfl ?_
  refine WK.loop (G := Nat × Value × Bun) (fun g => [(4, .int .i64 (g.1 : Nat)), (0, str l), (3, g.2.1)]) (fun _ _ => none) (fun g => [g.2.2])
    (fun g => g.1 ≤ l.length ∧ OSl g.2.2 1 5 g.2.1 (((l.take g.1).flatMap hexL).map byt)) (fun g => l.length - g.1) (0, .slice none 0 0, []) ⟨by simp, OSl.nil _ _ _⟩ ⟨rfl, rfl, rfl, trivial⟩ rfl rfl ?_
  rintro ⟨k, v, bk⟩ ρ ⟨hk, hO⟩
  replace hk : k ≤ l.length := hk
  replace hO : OSl bk 1 5 v (((l.take k).flatMap hexL).map byt) := hO
  have hX : ((l.take k).flatMap hexL).length ≤ 2 * 1000000000 := by rw [hex_len, List.length_take]; omega
  have hY := fun h => hex_succ (l := l) (k := k) h
  generalize hX2 : (l.take k).flatMap hexL = X at *
  obtain ⟨a3, c3, hv3, _⟩ := hO.shape
  rw [List.length_map] at hv3
  subst hv3
  refine WK.seq ?_
  refine WK.seq ?_
  refine WK.region ?_
  refine WL.mvI rfl rfl ?_
  refine WL.mvS rfl rfl ?_
  refine WL.lenS rfl rfl ?_
  refine WL.lss rfl rfl rfl ?_
  refine WL.nil ?_
  -- cond
  refine WK.cond rfl (fun h => ?_) (fun h => ?_)
  · have hlt : k < l.length := by simpa using h
    have hc : l[k]? = some l[k] := by simp [hlt]
    have hb := l[k].toNat_lt
    have e1 : IntKind.i64.wrap (l[k].toNat : Int) = ((l[k].toNat : Nat) : Int) := IntWalk.i64_in _ ⟨by omega, by omega⟩
    refine WK.skip ?_
    refine WK.seq ?_
    refine WK.block ?_
    -- draw
    refine WK.drawnQ 13 #[[], [], [], [1, 2], [1, 2, 3], [1, 2, 3, 4], [1, 2, 3, 4, 5], [], [], [7, 8], [7, 8, 9], [7, 8, 9, 10], [1, 2, 3, 4, 5, 6, 7, 8, 9, 10, 11], [1, 2, 3, 4, 5, 6, 7, 8, 9, 10, 11, 12], [0, 1, 2, 3, 4, 5, 6, 7, 8, 9, 10, 11, 12, 13], [0, 1, 2, 3, 4, 5, 6, 7, 8, 9, 10, 11, 12, 13, 14]] [0] rfl rfl rfl mixed_ok (by kernel_rfl) ?_
    refine WRL.late rfl rfl (fun K h => WL.mvL rfl rfl h) (fun blk K h => WL.mvL rfl rfl h) ?_
    refine WRL.cons rfl rfl (fun K h => WL.mvS rfl rfl h) rfl ?_
    refine WRL.cons rfl rfl (fun K h => WL.mvI rfl rfl h) rfl ?_
    refine WRL.cons rfl rfl (fun K h => WL.indexS rfl rfl rfl rfl (by assumption) h) rfl ?_
    refine WRL.cons rfl rfl (fun K h => WL.convI rfl rfl h) rfl ?_
    refine WRL.cons rfl rfl (fun K h => WL.quo rfl rfl rfl (by rw [e1]; omega) (by rw [e1]; omega) (by omega) h) rfl ?_
    refine WRL.cons rfl rfl (fun K h => WL.callp (rdigit_at (l[k].toNat / 16) (by rw [e1]; omega) (by omega)) rfl rfl rfl h) rfl ?_
    refine WRL.cons rfl rfl (fun K h => WL.mvS rfl rfl h) rfl ?_
    refine WRL.cons rfl rfl (fun K h => WL.mvI rfl rfl h) rfl ?_
    refine WRL.cons rfl rfl (fun K h => WL.indexS rfl rfl rfl rfl (by assumption) h) rfl ?_
    refine WRL.cons rfl rfl (fun K h => WL.convI rfl rfl h) rfl ?_
    refine WRL.cons rfl rfl (fun K h => WL.rem rfl rfl rfl (by rw [e1]; omega) (by omega) h) rfl ?_
    refine WRL.cons rfl rfl (fun K h => WL.callp (rdigit_at (l[k].toNat % 16) (by rw [e1]; omega) (by omega)) rfl rfl rfl h) rfl ?_
    refine WRL.nil ⟨_, QStep.buildSlice rfl [(byt _), (byt _)] rfl rfl ⟨Fit.one rfl, Fit.one rfl, trivial⟩ rfl, ?_⟩
    rintro v24 m24 own24 ⟨hm24, b24, blk24, hb24, ho24, hO24⟩; subst m24; subst ho24; refine ⟨⟨rfl, _, rfl⟩, ?_⟩
    obtain ⟨a24, c24, hv24, hc24⟩ := hO24.shape; subst hv24
    refine WL.append rfl rfl hO (by first | exact .here | exact .there .here | exact .there (.there .here) | exact .there (.there (.there .here)) | exact .there (.there (.there (.there .here))) | exact .there (.there (.there (.there (.there .here))))) rfl (hO24.sl fun p hp => .inr (At.mem (by first | exact .here | exact .there .here | exact .there (.there .here) | exact .there (.there (.there .here)) | exact .there (.there (.there (.there .here))) | exact .there (.there (.there (.there (.there .here))))) p hp)) rfl rfl (by simp; omega) _ (fun _ => (by first | exact .here | exact .there .here | exact .there (.there .here) | exact .there (.there (.there .here)) | exact .there (.there (.there (.there .here))) | exact .there (.there (.there (.there (.there .here)))))) fun v25 blk25 hO25 => ?_
    obtain ⟨a25, c25, hv25, hc25⟩ := hO25.shape; subst hv25
    refine WL.drop (.drop .refl) ?_
    refine WL.asL rfl rfl ?_
    refine WL.nil ?_
    refine WK.blk ?_
    refine WK.region ?_
    refine WL.mvI rfl rfl ?_
    refine WL.add rfl rfl rfl (by omega) ?_
    refine WL.asI rfl rfl ?_
    refine WL.nil ?_
    -- again
    refine WK.again (k + 1, _, _) ⟨by show k + 1 ≤ _; omega, ?_⟩ (by show l.length - (k + 1) < l.length - k; omega) ⟨rfl, rfl, rfl, trivial⟩ rfl rfl
    show OSl _ 1 _ _ (((l.take (k + 1)).flatMap hexL).map byt)
    rw [hY hlt, List.map_append]
    exact hO25
  · skip
    have hk2 : k = l.length := by simp at h; omega
    have hS2 : Sl (Rd (fun _ => none) [bk]) 1 (.slice a3 X.length c3) (X.map byt) := hO.sl fun p hp => .inr (At.mem .here p hp)
    refine WK.exit ?_
    refine WK.exit_code ?_
    refine WK.exit_lp ?_
    refine WK.exit_hit ?_
    refine WK.seq ?_
    refine WK.region ?_
    refine WL.mvL rfl rfl ?_
    refine WL.ofBytes rfl rfl hS2 ?_
    refine WL.asS rfl rfl ?_
    refine WL.nil ?_
    refine WK.ret ?_
    -- end
    refine WK.end1 rfl (show _ = str _ from rfl) ?_
    subst hk2
    rw [← hX2, List.take_length]

/-! Quoted-printable (4.1). -/
def qOk (c : UInt8) (more : Bool) : Bool := (decide ((33 : Int) ≤ c.toNat) && decide ((c.toNat : Int) ≤ 126) && !decide ((c.toNat : Int) = 61)) || ((decide ((c.toNat : Int) = 32) || decide ((c.toNat : Int) = 9)) && more)
def qEnc : List UInt8 → List UInt8
  | [] => []
  | c :: l => (if qOk c (!l.isEmpty) then [c] else 61 :: hexL c) ++ qEnc l
theorem qEnc_len (l : List UInt8) : (qEnc l).length ≤ 3 * l.length := by
  induction l with
  | nil => simp [qEnc]
  | cons c l ih => simp only [qEnc, List.length_append, List.length_cons]; split <;> simp [hexL] <;> omega
theorem qEnc_at {s : List UInt8} {k : Nat} (h : k < s.length) : qEnc (s.drop k) = (if qOk s[k] (decide ((k : Int) + 1 < s.length)) then [s[k]] else 61 :: hexL s[k]) ++ qEnc (s.drop (k + 1)) := by
  rw [List.drop_eq_getElem_cons h, qEnc]
  have : (!(s.drop (k + 1)).isEmpty) = decide ((k : Int) + 1 < s.length) := by
    by_cases h2 : k + 1 < s.length
    · have e : (s.drop (k + 1)) ≠ [] := by rw [ne_eq, List.drop_eq_nil_iff]; omega
      rw [decide_eq_true (by omega : (k : Int) + 1 < s.length)]
      cases hd : s.drop (k + 1) with
      | nil => exact absurd hd e
      | cons _ _ => rfl
    · have e : (s.drop (k + 1)) = [] := by rw [List.drop_eq_nil_iff]; omega
      rw [decide_eq_false (by omega : ¬ (k : Int) + 1 < s.length), e]; rfl
  rw [this]
theorem shown_pu (c : UInt8) : Pu Tryd.prog 66 [byt c] (.bool (decide ((33 : Int) ≤ c.toNat) && decide ((c.toNat : Int) ≤ 126) && !decide ((c.toNat : Int) = 61))) := by
  refine Pu.of Tryd.func66 Tryd.ntmps66 rfl rfl fun w => ?_
  refine WK.seq ?_
  refine WK.region ?_
  refine WL.asC rfl ?_
  refine WL.nil ?_
  refine WK.seq ?_
  refine WK.region ?_
  refine WL.mvI rfl rfl ?_
  refine WL.gtr rfl rfl rfl ?_
  refine WL.mvB rfl rfl ?_
  refine WL.guardSplit rfl rfl (fun h1 => ?_) (fun h1 => ?_)
  · skip
    refine WL.mvI rfl rfl ?_
    refine WL.guard rfl h1 ?_
    refine WL.lss rfl rfl rfl ?_
    refine WL.pickT rfl rfl h1 rfl ?_
    refine WL.mvB rfl rfl ?_
    refine WL.guardSplit rfl rfl (fun h2 => ?_) (fun h2 => ?_)
    · skip
      refine WL.mvI rfl rfl ?_
      refine WL.guard rfl h2 ?_
      refine WL.neq rfl rfl rfl ?_
      refine WL.pickT rfl rfl h2 rfl ?_
      refine WL.asB rfl rfl ?_
      refine WL.nil ?_
      refine WK.ret ?_
      refine WK.end1 rfl (show _ = .bool _ from rfl) ?_
      simp_all <;> omega
    · skip
      refine WL.guardSkip rfl h2 rfl ?_
      refine WL.pickF rfl rfl h2 rfl ?_
      refine WL.asB rfl rfl ?_
      refine WL.nil ?_
      refine WK.ret ?_
      refine WK.end1 rfl (show _ = .bool _ from rfl) ?_
      simp_all <;> omega
  · skip
    refine WL.guardSkip rfl h1 rfl ?_
    refine WL.pickF rfl rfl h1 rfl ?_
    refine WL.mvB rfl rfl ?_
    refine WL.guardSkip rfl rfl rfl ?_
    refine WL.guardSkip rfl rfl rfl ?_
    refine WL.pickF rfl rfl rfl rfl ?_
    refine WL.asB rfl rfl ?_
    refine WL.nil ?_
    refine WK.ret ?_
    refine WK.end1 rfl (show _ = .bool _ from rfl) ?_
    simp_all <;> omega
theorem qblank_pu (c : UInt8) : Pu Tryd.prog 67 [byt c] (.bool (decide ((c.toNat : Int) = 32) || decide ((c.toNat : Int) = 9))) := by
  refine Pu.of Tryd.func67 Tryd.ntmps67 rfl rfl fun w => ?_
  refine WK.seq ?_
  refine WK.region ?_
  refine WL.asC rfl ?_
  refine WL.nil ?_
  refine WK.seq ?_
  refine WK.region ?_
  refine WL.mvI rfl rfl ?_
  refine WL.eql rfl rfl rfl ?_
  refine WL.mvB rfl rfl ?_
  refine WL.guardSplit rfl rfl (fun h1 => ?_) (fun h1 => ?_)
  · skip
    refine WL.mvI rfl rfl ?_
    refine WL.guard rfl h1 ?_
    refine WL.eql rfl rfl rfl ?_
    refine WL.pickF rfl rfl h1 rfl ?_
    refine WL.asB rfl rfl ?_
    refine WL.nil ?_
    refine WK.ret ?_
    refine WK.end1 rfl (show _ = .bool _ from rfl) ?_
    simp_all
  · skip
    refine WL.guardSkip rfl h1 rfl ?_
    refine WL.pickT rfl rfl h1 rfl ?_
    refine WL.asB rfl rfl ?_
    refine WL.nil ?_
    refine WK.ret ?_
    refine WK.end1 rfl (show _ = .bool _ from rfl) ?_
    simp_all
theorem rplain_pu (s : List UInt8) (k : Nat) (hlt : k < s.length) (hs : s.length ≤ 1000000000) : Pu Tryd.prog 50 [str s, .int .i64 (k : Nat)] (.bool (qOk s[k] (decide ((k : Int) + 1 < s.length)))) := by
  have hc : s[k]? = some s[k] := by simp [hlt]
  refine Pu.of Tryd.func50 Tryd.ntmps50 rfl rfl fun w => ?_
  refine WK.seq ?_
  refine WK.region ?_
  refine WL.asC rfl ?_
  refine WL.nil ?_
  refine WK.seq ?_
  refine WK.region ?_
  refine WL.mvS rfl rfl ?_
  refine WL.mvI rfl rfl ?_
  refine WL.indexS rfl rfl rfl rfl (by assumption) ?_
  refine WL.asI rfl rfl ?_
  refine WL.nil ?_
  refine WK.seq ?_
  refine WK.region ?_
  refine WL.mvI rfl rfl ?_
  refine WL.geq rfl rfl rfl ?_
  refine WL.mvB rfl rfl ?_
  refine WL.guardSplit rfl rfl (fun h1 => ?_) (fun h1 => ?_)
  · skip
    refine WL.mvI rfl rfl ?_
    refine WL.guard rfl h1 ?_
    refine WL.leq rfl rfl rfl ?_
    refine WL.pickT rfl rfl h1 rfl ?_
    refine WL.mvB rfl rfl ?_
    refine WL.guardSplit rfl rfl (fun h2 => ?_) (fun h2 => ?_)
    · skip
      refine WL.mvI rfl rfl ?_
      refine WL.guard rfl h2 ?_
      refine WL.neq rfl rfl rfl ?_
      refine WL.pickT rfl rfl h2 rfl ?_
      refine WL.mvB rfl rfl ?_
      refine WL.guardSplit rfl rfl (fun h3 => ?_) (fun h3 => ?_)
      · skip
        refine WL.mvI rfl rfl ?_
        refine WL.guard rfl h3 ?_
        refine WL.eql rfl rfl rfl ?_
        refine WL.guard rfl h3 ?_
        refine WL.mvB rfl rfl ?_
        refine WL.guardSplit rfl rfl (fun h4 => ?_) (fun h4 => ?_)
        · skip
          refine WL.mvI rfl rfl ?_
          refine WL.guard rfl h4 ?_
          refine WL.eql rfl rfl rfl ?_
          refine WL.guard rfl h3 ?_
          refine WL.pickF rfl rfl h4 rfl ?_
          refine WL.guard rfl h3 ?_
          refine WL.mvB rfl rfl ?_
          refine WL.guardSplit rfl rfl (fun h5 => ?_) (fun h5 => ?_)
          · skip
            refine WL.mvI rfl rfl ?_
            refine WL.guard rfl h5 ?_
            refine WL.add rfl rfl rfl (by omega) ?_
            refine WL.guard rfl h5 ?_
            refine WL.mvS rfl rfl ?_
            refine WL.guard rfl h5 ?_
            refine WL.lenS rfl rfl ?_
            refine WL.guard rfl h5 ?_
            refine WL.lss rfl rfl rfl ?_
            refine WL.guard rfl h3 ?_
            refine WL.pickT rfl rfl h5 rfl ?_
            refine WL.pickF rfl rfl h3 rfl ?_
            refine WL.asB rfl rfl ?_
            refine WL.nil ?_
            refine WK.ret ?_
            refine WK.end1 rfl (show _ = .bool _ from rfl) ?_
            simp_all [qOk] <;> omega
          · skip
            refine WL.guardSkip rfl h5 rfl ?_
            refine WL.guardSkip rfl h5 rfl ?_
            refine WL.guardSkip rfl h5 rfl ?_
            refine WL.guardSkip rfl h5 rfl ?_
            refine WL.guard rfl h3 ?_
            refine WL.pickF rfl rfl h5 rfl ?_
            refine WL.pickF rfl rfl h3 rfl ?_
            refine WL.asB rfl rfl ?_
            refine WL.nil ?_
            refine WK.ret ?_
            refine WK.end1 rfl (show _ = .bool _ from rfl) ?_
            simp_all [qOk] <;> omega
        · skip
          refine WL.guardSkip rfl h4 rfl ?_
          refine WL.guard rfl h3 ?_
          refine WL.pickT rfl rfl h4 rfl ?_
          refine WL.guard rfl h3 ?_
          refine WL.mvB rfl rfl ?_
          refine WL.guard rfl rfl ?_
          refine WL.mvI rfl rfl ?_
          refine WL.guard rfl rfl ?_
          refine WL.add rfl rfl rfl (by omega) ?_
          refine WL.guard rfl rfl ?_
          refine WL.mvS rfl rfl ?_
          refine WL.guard rfl rfl ?_
          refine WL.lenS rfl rfl ?_
          refine WL.guard rfl rfl ?_
          refine WL.lss rfl rfl rfl ?_
          refine WL.guard rfl h3 ?_
          refine WL.pickT rfl rfl rfl rfl ?_
          refine WL.pickF rfl rfl h3 rfl ?_
          refine WL.asB rfl rfl ?_
          refine WL.nil ?_
          refine WK.ret ?_
          refine WK.end1 rfl (show _ = .bool _ from rfl) ?_
          simp_all [qOk] <;> omega
      · skip
        refine WL.guardSkip rfl h3 rfl ?_
        refine WL.guardSkip rfl h3 rfl ?_
        refine WL.guardNone rfl rfl ?_
        refine WL.guardNone rfl rfl ?_
        refine WL.guardSkip rfl h3 rfl ?_
        refine WL.guardSkip rfl h3 rfl ?_
        refine WL.guardNone rfl rfl ?_
        refine WL.guardNone rfl rfl ?_
        refine WL.guardNone rfl rfl ?_
        refine WL.guardNone rfl rfl ?_
        refine WL.guardNone rfl rfl ?_
        refine WL.guardSkip rfl h3 rfl ?_
        refine WL.pickT rfl rfl h3 rfl ?_
        refine WL.asB rfl rfl ?_
        refine WL.nil ?_
        refine WK.ret ?_
        refine WK.end1 rfl (show _ = .bool _ from rfl) ?_
        simp_all [qOk] <;> omega
    · skip
      refine WL.guardSkip rfl h2 rfl ?_
      refine WL.pickF rfl rfl h2 rfl ?_
      refine WL.mvB rfl rfl ?_
      refine WL.guard rfl rfl ?_
      refine WL.mvI rfl rfl ?_
      refine WL.guard rfl rfl ?_
      refine WL.eql rfl rfl rfl ?_
      refine WL.guard rfl rfl ?_
      refine WL.mvB rfl rfl ?_
      refine WL.guardSplit rfl rfl (fun h3 => ?_) (fun h3 => ?_)
      · skip
        refine WL.mvI rfl rfl ?_
        refine WL.guard rfl h3 ?_
        refine WL.eql rfl rfl rfl ?_
        refine WL.guard rfl rfl ?_
        refine WL.pickF rfl rfl h3 rfl ?_
        refine WL.guard rfl rfl ?_
        refine WL.mvB rfl rfl ?_
        refine WL.guardSplit rfl rfl (fun h4 => ?_) (fun h4 => ?_)
        · skip
          refine WL.mvI rfl rfl ?_
          refine WL.guard rfl h4 ?_
          refine WL.add rfl rfl rfl (by omega) ?_
          refine WL.guard rfl h4 ?_
          refine WL.mvS rfl rfl ?_
          refine WL.guard rfl h4 ?_
          refine WL.lenS rfl rfl ?_
          refine WL.guard rfl h4 ?_
          refine WL.lss rfl rfl rfl ?_
          refine WL.guard rfl rfl ?_
          refine WL.pickT rfl rfl h4 rfl ?_
          refine WL.pickF rfl rfl rfl rfl ?_
          refine WL.asB rfl rfl ?_
          refine WL.nil ?_
          refine WK.ret ?_
          refine WK.end1 rfl (show _ = .bool _ from rfl) ?_
          simp_all [qOk] <;> omega
        · skip
          refine WL.guardSkip rfl h4 rfl ?_
          refine WL.guardSkip rfl h4 rfl ?_
          refine WL.guardSkip rfl h4 rfl ?_
          refine WL.guardSkip rfl h4 rfl ?_
          refine WL.guard rfl rfl ?_
          refine WL.pickF rfl rfl h4 rfl ?_
          refine WL.pickF rfl rfl rfl rfl ?_
          refine WL.asB rfl rfl ?_
          refine WL.nil ?_
          refine WK.ret ?_
          refine WK.end1 rfl (show _ = .bool _ from rfl) ?_
          simp_all [qOk] <;> omega
      · skip
        refine WL.guardSkip rfl h3 rfl ?_
        refine WL.guard rfl rfl ?_
        refine WL.pickT rfl rfl h3 rfl ?_
        refine WL.guard rfl rfl ?_
        refine WL.mvB rfl rfl ?_
        refine WL.guard rfl rfl ?_
        refine WL.mvI rfl rfl ?_
        refine WL.guard rfl rfl ?_
        refine WL.add rfl rfl rfl (by omega) ?_
        refine WL.guard rfl rfl ?_
        refine WL.mvS rfl rfl ?_
        refine WL.guard rfl rfl ?_
        refine WL.lenS rfl rfl ?_
        refine WL.guard rfl rfl ?_
        refine WL.lss rfl rfl rfl ?_
        refine WL.guard rfl rfl ?_
        refine WL.pickT rfl rfl rfl rfl ?_
        refine WL.pickF rfl rfl rfl rfl ?_
        refine WL.asB rfl rfl ?_
        refine WL.nil ?_
        refine WK.ret ?_
        refine WK.end1 rfl (show _ = .bool _ from rfl) ?_
        simp_all [qOk] <;> omega
  · skip
    refine WL.guardSkip rfl h1 rfl ?_
    refine WL.pickF rfl rfl h1 rfl ?_
    refine WL.mvB rfl rfl ?_
    refine WL.guardSkip rfl rfl rfl ?_
    refine WL.guardSkip rfl rfl rfl ?_
    refine WL.pickF rfl rfl rfl rfl ?_
    refine WL.mvB rfl rfl ?_
    refine WL.guard rfl rfl ?_
    refine WL.mvI rfl rfl ?_
    refine WL.guard rfl rfl ?_
    refine WL.eql rfl rfl rfl ?_
    refine WL.guard rfl rfl ?_
    refine WL.mvB rfl rfl ?_
    refine WL.guardSplit rfl rfl (fun h2 => ?_) (fun h2 => ?_)
    · skip
      refine WL.mvI rfl rfl ?_
      refine WL.guard rfl h2 ?_
      refine WL.eql rfl rfl rfl ?_
      refine WL.guard rfl rfl ?_
      refine WL.pickF rfl rfl h2 rfl ?_
      refine WL.guard rfl rfl ?_
      refine WL.mvB rfl rfl ?_
      refine WL.guardSplit rfl rfl (fun h3 => ?_) (fun h3 => ?_)
      · skip
        refine WL.mvI rfl rfl ?_
        refine WL.guard rfl h3 ?_
        refine WL.add rfl rfl rfl (by omega) ?_
        refine WL.guard rfl h3 ?_
        refine WL.mvS rfl rfl ?_
        refine WL.guard rfl h3 ?_
        refine WL.lenS rfl rfl ?_
        refine WL.guard rfl h3 ?_
        refine WL.lss rfl rfl rfl ?_
        refine WL.guard rfl rfl ?_
        refine WL.pickT rfl rfl h3 rfl ?_
        refine WL.pickF rfl rfl rfl rfl ?_
        refine WL.asB rfl rfl ?_
        refine WL.nil ?_
        refine WK.ret ?_
        refine WK.end1 rfl (show _ = .bool _ from rfl) ?_
        simp_all [qOk] <;> omega
      · skip
        refine WL.guardSkip rfl h3 rfl ?_
        refine WL.guardSkip rfl h3 rfl ?_
        refine WL.guardSkip rfl h3 rfl ?_
        refine WL.guardSkip rfl h3 rfl ?_
        refine WL.guard rfl rfl ?_
        refine WL.pickF rfl rfl h3 rfl ?_
        refine WL.pickF rfl rfl rfl rfl ?_
        refine WL.asB rfl rfl ?_
        refine WL.nil ?_
        refine WK.ret ?_
        refine WK.end1 rfl (show _ = .bool _ from rfl) ?_
        simp_all [qOk] <;> omega
    · skip
      refine WL.guardSkip rfl h2 rfl ?_
      refine WL.guard rfl rfl ?_
      refine WL.pickT rfl rfl h2 rfl ?_
      refine WL.guard rfl rfl ?_
      refine WL.mvB rfl rfl ?_
      refine WL.guard rfl rfl ?_
      refine WL.mvI rfl rfl ?_
      refine WL.guard rfl rfl ?_
      refine WL.add rfl rfl rfl (by omega) ?_
      refine WL.guard rfl rfl ?_
      refine WL.mvS rfl rfl ?_
      refine WL.guard rfl rfl ?_
      refine WL.lenS rfl rfl ?_
      refine WL.guard rfl rfl ?_
      refine WL.lss rfl rfl rfl ?_
      refine WL.guard rfl rfl ?_
      refine WL.pickT rfl rfl rfl rfl ?_
      refine WL.pickF rfl rfl rfl rfl ?_
      refine WL.asB rfl rfl ?_
      refine WL.nil ?_
      refine WK.ret ?_
      refine WK.end1 rfl (show _ = .bool _ from rfl) ?_
      simp_all [qOk] <;> omega
theorem cut1 {s : List UInt8} {k : Nat} (h : k < s.length) : (s.take (k + 1)).drop k = [s[k]] := by
  rw [List.take_succ_eq_append_getElem h, List.drop_append]
  simp [List.length_take, Nat.min_eq_left (Nat.le_of_lt h)]
theorem rqenc_pu (s : List UInt8) (hs : s.length ≤ 100000000) : Pu Tryd.prog 27 [str s] (str (qEnc s)) := by
  refine Pu.of Tryd.func27 Tryd.ntmps27 rfl rfl fun w => ?_
  refine WK.seq ?_
  refine WK.region ?_
  refine WL.asC rfl ?_
  refine WL.nil ?_
  refine WK.seq ?_
  refine WK.region ?_
  refine WL.asC rfl ?_
  refine WL.nil ?_
  refine WK.seq ?_
  refine WK.seq ?_
  refine WK.region ?_
  refine WL.asC rfl ?_
  refine WL.nil ?_
  refine WK.block ?_
  -- loop
  refine WK.loop (G := Nat × List UInt8) (fun g => [(4, .int .i64 (g.1 : Nat)), (0, str s), (3, str g.2)]) (fun _ _ => none) (fun g => [])
    (fun g => g.1 ≤ s.length ∧ g.2 ++ qEnc (s.drop g.1) = qEnc s) (fun g => s.length - g.1) (0, []) ⟨by simp, by simp⟩ ⟨rfl, rfl, rfl, trivial⟩ rfl rfl ?_
  rintro ⟨k, X⟩ ρ ⟨hk, hX⟩
  replace hk : k ≤ s.length := hk
  replace hX : X ++ qEnc (s.drop k) = qEnc s := hX
  have hXl : X.length ≤ 300000000 := by
    have h1 := qEnc_len s
    rw [← hX, List.length_append] at h1; omega
  refine WK.seq ?_
  refine WK.seq ?_
  refine WK.region ?_
  refine WL.mvI rfl rfl ?_
  refine WL.mvS rfl rfl ?_
  refine WL.lenS rfl rfl ?_
  refine WL.lss rfl rfl rfl ?_
  refine WL.nil ?_
  -- cond
  refine WK.cond rfl (fun h => ?_) (fun h => ?_)
  · have hlt : k < s.length := by simpa using h
    have hE := qEnc_at hlt
    refine WK.skip ?_
    refine WK.seq ?_
    refine WK.block ?_
    refine WK.seq ?_
    refine WK.region ?_
    refine WL.mvS rfl rfl ?_
    refine WL.mvI rfl rfl ?_
    refine WL.callp (rplain_pu s k hlt (by omega)) rfl rfl rfl ?_
    refine WL.nil ?_
    -- cond
    refine WK.cond rfl (fun h2 => ?_) (fun h2 => ?_)
    · skip
      refine WK.region ?_
      refine WL.mvS rfl rfl ?_
      refine WL.mvS rfl rfl ?_
      refine WL.mvI rfl rfl ?_
      refine WL.mvI rfl rfl ?_
      refine WL.add rfl rfl rfl (by omega) ?_
      refine WL.sliceSLH rfl rfl rfl (lo' := k) (hi' := k + 1) rfl rfl rfl (by omega) (by omega) ?_
      refine WL.addS rfl rfl rfl (by simp; omega) ?_
      refine WL.asS rfl rfl ?_
      refine WL.nil ?_
      refine WK.blk ?_
      refine WK.region ?_
      refine WL.mvI rfl rfl ?_
      refine WL.add rfl rfl rfl (by omega) ?_
      refine WL.asI rfl rfl ?_
      refine WL.nil ?_
      -- again
      refine WK.again (k + 1, _) ⟨by show k + 1 ≤ _; omega, ?_⟩ (by show s.length - (k + 1) < s.length - k; omega) ⟨rfl, rfl, rfl, trivial⟩ rfl rfl
      show X ++ _ ++ qEnc (s.drop (k + 1)) = _
      rw [cut1 hlt, ← hX, hE, if_pos h2, List.append_assoc]
    · skip
      have hc1 := cut1 hlt
      refine WK.region ?_
      refine WL.mvS rfl rfl ?_
      refine WL.addS rfl rfl rfl (by simp; omega) ?_
      refine WL.mvS rfl rfl ?_
      refine WL.mvI rfl rfl ?_
      refine WL.mvI rfl rfl ?_
      refine WL.add rfl rfl rfl (by omega) ?_
      refine WL.sliceSLH rfl rfl rfl (lo' := k) (hi' := k + 1) rfl rfl rfl (by omega) (by omega) ?_
      refine WL.callp (rhex_pu _ (by rw [hc1]; simp)) rfl rfl rfl ?_
      refine WL.addS rfl rfl rfl (by rw [hc1]; simp [hexL]; omega) ?_
      refine WL.asS rfl rfl ?_
      refine WL.nil ?_
      refine WK.blk ?_
      refine WK.region ?_
      refine WL.mvI rfl rfl ?_
      refine WL.add rfl rfl rfl (by omega) ?_
      refine WL.asI rfl rfl ?_
      refine WL.nil ?_
      -- again
      refine WK.again (k + 1, _) ⟨by show k + 1 ≤ _; omega, ?_⟩ (by show s.length - (k + 1) < s.length - k; omega) ⟨rfl, rfl, rfl, trivial⟩ rfl rfl
      show X ++ [61] ++ _ ++ qEnc (s.drop (k + 1)) = _
      rw [hc1, ← hX, hE, if_neg (by simp [h2])]
      simp
  · skip
    have hk2 : k = s.length := by simp at h; omega
    refine WK.exit ?_
    refine WK.exit_code ?_
    refine WK.exit_lp ?_
    refine WK.exit_hit ?_
    refine WK.seq ?_
    refine WK.region ?_
    refine WL.mvS rfl rfl ?_
    refine WL.asS rfl rfl ?_
    refine WL.nil ?_
    refine WK.ret ?_
    -- end
    refine WK.end1 rfl (show _ = str _ from rfl) ?_
    subst hk2
    rw [List.drop_length, qEnc, List.append_nil] at hX
    rw [hX]
theorem qenc_pu (s : List UInt8) (hs : s.length ≤ 100000000) : Pu Tryd.prog 42 [str s] (str (qEnc s)) := by
  refine Pu.of Tryd.func42 Tryd.ntmps42 rfl rfl fun w => ?_
  refine WK.seq ?_
  refine WK.region ?_
  refine WL.asC rfl ?_
  refine WL.nil ?_
  refine WK.seq ?_
  refine WK.region ?_
  refine WL.alloc rfl fun b3 => ?_
  refine WL.nil ?_
  refine WK.seq ?_
  refine WK.seq ?_
  refine WK.region ?_
  refine WL.mvS rfl rfl ?_
  refine WL.toBytes rfl rfl fun v7 blk7 hO7 => ?_
  obtain ⟨a7, c7, hv7, hc7⟩ := hO7.shape; rw [List.length_map] at hv7 hc7; subst hv7
  refine WL.lenSl rfl rfl ?_
  refine WL.mvC rfl ?_
  refine WL.nil ?_
  refine WK.block ?_
  -- loop
  have hB := IsB.new b3
  refine WK.perm (List.Perm.swap _ _ _) ?_
  refine WK.loop (G := Nat × List UInt8 × Bun) (fun g => [(9, .int .i64 (g.1 : Nat)), (8, .int .i64 (s.length : Nat)), (7, .slice a7 s.length c7), (0, str s), (3, .pointer (some ⟨b3, 0, none⟩))]) (fun _ _ => none) (fun g => [g.2.2, blk7])
    (fun g => g.1 ≤ s.length ∧ g.2.1 ++ qEnc (s.drop g.1) = qEnc s ∧ IsB g.2.2 b3 g.2.1) (fun g => s.length - g.1) (0, [], _) ⟨by simp, by simp, hB⟩ ⟨rfl, rfl, rfl, rfl, rfl, trivial⟩ rfl rfl ?_
  rintro ⟨k, X, bk⟩ ρ ⟨hk, hX, hB⟩
  replace hk : k ≤ s.length := hk
  replace hX : X ++ qEnc (s.drop k) = qEnc s := hX
  replace hB : IsB bk b3 X := hB
  have hXl : X.length ≤ 300000000 := by
    have h1 := qEnc_len s
    rw [← hX, List.length_append] at h1; omega
  have hS : Sl (Rd (fun _ => none) [bk, blk7]) 1 (.slice a7 s.length c7) (s.map byt) := hO7.sl fun p hp => .inr (At.mem (.there .here) p hp)
  refine WK.seq ?_
  refine WK.region ?_
  refine WL.lss rfl rfl rfl ?_
  refine WL.nil ?_
  refine WK.seq ?_
  -- cond
  refine WK.cond rfl (fun h => ?_) (fun h => ?_)
  · have hlt : k < s.length := by simpa using h
    have hE := qEnc_at hlt
    have hc : (s.map byt)[k]? = some (byt s[k]) := by simp [hlt]
    refine WK.skip ?_
    refine WK.seq ?_
    refine WK.block ?_
    refine WK.seq ?_
    refine WK.region ?_
    refine WL.mvI rfl rfl ?_
    refine WL.indexE rfl rfl hS rfl rfl hc fun p12 hp12 => ?_
    refine WL.load1 rfl rfl hp12 ?_
    refine WL.asI rfl rfl ?_
    refine WL.asI rfl rfl ?_
    refine WL.nil ?_
    refine WK.seq ?_
    refine WK.mid (fun (_ : Unit) => [(26, .bool (qOk s[k] (decide ((k : Int) + 1 < s.length)))), (9, .int .i64 (k : Nat)), (4, .int .i64 (k : Nat)), (5, byt s[k]), (8, .int .i64 (s.length : Nat)), (7, .slice a7 s.length c7), (0, str s), (3, .pointer (some ⟨b3, 0, none⟩))]) (fun _ _ => none) (fun g => [bk, blk7]) (fun _ => True) ?_ ?_
    · skip
      refine WK.region ?_
      refine WL.mvI rfl rfl ?_
      refine WL.callp (shown_pu _) rfl rfl rfl ?_
      refine WL.mvB rfl rfl ?_
      refine WL.guardSplit rfl rfl (fun h1 => ?_) (fun h1 => ?_)
      · skip
        refine WL.mvI rfl rfl ?_
        refine WL.guard rfl h1 ?_
        refine WL.callp (qblank_pu _) rfl rfl rfl ?_
        refine WL.guard rfl h1 ?_
        refine WL.mvB rfl rfl ?_
        refine WL.guardSplit rfl rfl (fun h2 => ?_) (fun h2 => ?_)
        · skip
          refine WL.mvI rfl rfl ?_
          refine WL.guard rfl h2 ?_
          refine WL.add rfl rfl rfl (by omega) ?_
          refine WL.guard rfl h2 ?_
          refine WL.mvS rfl rfl ?_
          refine WL.guard rfl h2 ?_
          refine WL.lenS rfl rfl ?_
          refine WL.guard rfl h2 ?_
          refine WL.lss rfl rfl rfl ?_
          refine WL.guard rfl h1 ?_
          refine WL.pickT rfl rfl h2 rfl ?_
          refine WL.pickF rfl rfl h1 rfl ?_
          refine WL.nil ?_
          refine WK.met () trivial ⟨congrArg Value.bool ?_, rfl, rfl, rfl, rfl, rfl, rfl, rfl, trivial⟩ rfl rfl
          simp only [qOk, *, Bool.not_true, Bool.not_false, Bool.false_or, Bool.true_or, Bool.true_and, Bool.false_and, Bool.or_false]
        · skip
          refine WL.guardSkip rfl h2 rfl ?_
          refine WL.guardSkip rfl h2 rfl ?_
          refine WL.guardSkip rfl h2 rfl ?_
          refine WL.guardSkip rfl h2 rfl ?_
          refine WL.guard rfl h1 ?_
          refine WL.pickF rfl rfl h2 rfl ?_
          refine WL.pickF rfl rfl h1 rfl ?_
          refine WL.nil ?_
          refine WK.met () trivial ⟨congrArg Value.bool ?_, rfl, rfl, rfl, rfl, rfl, rfl, rfl, trivial⟩ rfl rfl
          simp only [qOk, *, Bool.not_true, Bool.not_false, Bool.false_or, Bool.true_or, Bool.true_and, Bool.false_and, Bool.or_false]
      · skip
        refine WL.guardSkip rfl h1 rfl ?_
        refine WL.guardSkip rfl h1 rfl ?_
        refine WL.guardNone rfl rfl ?_
        refine WL.guardNone rfl rfl ?_
        refine WL.guardNone rfl rfl ?_
        refine WL.guardNone rfl rfl ?_
        refine WL.guardNone rfl rfl ?_
        refine WL.guardSkip rfl h1 rfl ?_
        refine WL.pickT rfl rfl h1 rfl ?_
        refine WL.nil ?_
        refine WK.met () trivial ⟨congrArg Value.bool ?_, rfl, rfl, rfl, rfl, rfl, rfl, rfl, trivial⟩ rfl rfl
        simp only [qOk, *, Bool.not_true, Bool.not_false, Bool.false_or, Bool.true_or, Bool.true_and, Bool.false_and, Bool.or_false]
    rintro _ ρ _
    -- cond
    refine WK.cond rfl (fun h2 => ?_) (fun h2 => ?_)
    · refine WK.region ?_
      refine WL.mvI rfl rfl ?_
      refine WL.call (writeByte_tr _ hB _ (by (try simp only [List.length_append, List.length_cons, List.length_nil, List.length_map]); omega)) rfl rfl rfl (by first | exact .here .none | exact .there (.here .none) | exact .there (.there (.here .none)) | exact .there (.there (.there (.here .none)))) ?_
      intro u m1 back hle hΦ; obtain ⟨hm1, bk, hbk1, hB⟩ := hΦ; subst m1; subst hbk1
      refine WL.nil ?_
      refine WK.blk ?_
      refine WK.region ?_
      refine WL.add rfl rfl rfl (by omega) ?_
      refine WL.mvI rfl rfl ?_
      refine WL.nil ?_
      -- again
      refine WK.again (k + 1, _, _) ⟨by show k + 1 ≤ _; omega, ?_, hB⟩ (by show s.length - (k + 1) < s.length - k; omega) ⟨rfl, rfl, rfl, rfl, rfl, trivial⟩ rfl rfl
      show X ++ [s[k]] ++ qEnc (s.drop (k + 1)) = _
      rw [← hX, hE, if_pos h2, List.append_assoc]
    · skip
      have hc1 := cut1 hlt
      refine WK.seq ?_
      refine WK.region ?_
      refine WL.call (writeByte_tr _ hB 61 (by (try simp only [List.length_append, List.length_cons, List.length_nil, List.length_map]); omega)) rfl rfl rfl (by first | exact .here .none | exact .there (.here .none) | exact .there (.there (.here .none)) | exact .there (.there (.there (.here .none)))) ?_
      intro u m1 back hle hΦ; obtain ⟨hm1, bk, hbk1, hB⟩ := hΦ; subst m1; subst hbk1
      refine WL.nil ?_
      refine WK.region ?_
      refine WL.mvS rfl rfl ?_
      refine WL.mvI rfl rfl ?_
      refine WL.mvI rfl rfl ?_
      refine WL.add rfl rfl rfl (by omega) ?_
      refine WL.sliceSLH rfl rfl rfl (lo' := k) (hi' := k + 1) rfl rfl rfl (by omega) (by omega) ?_
      refine WL.callp (hex_pu _ (by rw [hc1]; simp)) rfl rfl rfl ?_
      refine WL.call (writeString_tr _ hB _ (by rw [hc1]; simp [hexL]; omega)) rfl rfl rfl (by first | exact .here .none | exact .there (.here .none) | exact .there (.there (.here .none)) | exact .there (.there (.there (.here .none)))) ?_
      intro u m1 back hle hΦ; obtain ⟨hm1, bk, hbk1, hB⟩ := hΦ; subst m1; subst hbk1
      refine WL.nil ?_
      refine WK.blk ?_
      refine WK.region ?_
      refine WL.add rfl rfl rfl (by omega) ?_
      refine WL.mvI rfl rfl ?_
      refine WL.nil ?_
      -- again
      refine WK.again (k + 1, _, _) ⟨by show k + 1 ≤ _; omega, ?_, hB⟩ (by show s.length - (k + 1) < s.length - k; omega) ⟨rfl, rfl, rfl, rfl, rfl, trivial⟩ rfl rfl
      show X ++ [61] ++ _ ++ qEnc (s.drop (k + 1)) = _
      rw [hc1, ← hX, hE, if_neg (by simp [h2])]
      simp
  · skip
    have hk2 : k = s.length := by simp at h; omega
    refine WK.exit ?_
    refine WK.exit_code ?_
    refine WK.exit_lp ?_
    refine WK.exit_hit ?_
    refine WK.seq ?_
    refine WK.region ?_
    refine WL.call (string_tr _ hB (by (try simp only [List.length_append, List.length_cons, List.length_nil, List.length_map]); omega)) rfl rfl rfl (by first | exact .here .none | exact .there (.here .none) | exact .there (.there (.here .none)) | exact .there (.there (.there (.here .none)))) ?_
    intro u m1 back hle hΦ; obtain ⟨hu1, hm1, hbk1⟩ := hΦ; subst m1; subst hu1; subst hbk1
    refine WL.asS rfl rfl ?_
    refine WL.nil ?_
    refine WK.ret ?_
    -- end
    refine WK.end1 rfl (show _ = str _ from rfl) ?_
    subst hk2
    rw [List.drop_length, qEnc, List.append_nil] at hX
    rw [hX]
end Go.SL
