/- Lines: joined and folded: the program's functions and the reference's: contracts. -/
import Derived.Test.YtbigjpjmdkgjmaaDoorUtf
namespace Go.SL
open Go Go.Proofs
set_option linter.unusedVariables false
set_option linter.unusedSimpArgs false

def joinL (l : List (List UInt8)) : List UInt8 := l.flatMap (· ++ [13, 10])
theorem join_succ {l : List (List UInt8)} {k : Nat} (h : k < l.length) : joinL (l.take (k + 1)) = joinL (l.take k) ++ (l[k] ++ [13, 10]) := by
  rw [joinL, List.take_succ_eq_append_getElem h, List.flatMap_append]; simp [List.flatMap_cons, joinL]
theorem join_le {l : List (List UInt8)} {k : Nat} : (joinL (l.take k)).length ≤ (joinL l).length := by
  have h : joinL l = joinL (l.take k) ++ joinL (l.drop k) := by
    unfold joinL
    rw [← List.flatMap_append, List.take_append_drop]
  rw [h, List.length_append]; omega
theorem join_ge (l : List (List UInt8)) : l.length ≤ (joinL l).length := by
  induction l with
  | nil => simp
  | cons x l ih => simp only [joinL, List.flatMap_cons, List.length_append, List.length_cons, List.length_nil] at ih ⊢; omega
theorem rjoin_pm {R : Nat → Obj → Prop} {v : Value} {l : List (List UInt8)} (hs : Sl R 1 v (l.map str)) (hl : (joinL l).length ≤ 1000000000) : Pm Tryd.prog 14 [v] R (str (joinL l)) := by
  obtain ⟨a, c, hv, _⟩ := hs.shape
  rw [List.length_map] at hv
  subst hv
  refine Pm.of Tryd.func14 Tryd.ntmps14 rfl rfl fun m w hR => ?_
  have hs' : Sl (fun b o => m b = some o) 1 _ _ := hs.mono hR
  refine WK.seq ?_
  refine WK.region ?_
  refine WL.asC rfl ?_
  refine WL.nil ?_
  refine WK.seq ?_
  refine WK.region ?_
  refine WL.asC rfl ?_
  refine WL.nil ?_
  refine WK.seq ?_
  refine WK.seq ?_
  refine WK.region ?_
  refine WL.asC rfl ?_
  refine WL.nil ?_
  refine WK.block ?_
  -- loop
  refine WK.loop (fun (k : Nat) => [(4, .int .i64 (k : Nat)), (3, str (joinL (l.take k))), (0, .slice a l.length c)]) (fun _ => m) (fun _ => []) (fun k => k ≤ l.length) (fun k => l.length - k) 0 (by omega) ⟨rfl, rfl, rfl, trivial⟩ rfl rfl ?_
  rintro k ρ hk
  replace hk : k ≤ l.length := hk
  refine WK.seq ?_
  refine WK.seq ?_
  refine WK.region ?_
  refine WL.mvI rfl rfl ?_
  refine WL.mvL rfl rfl ?_
  refine WL.lenSl rfl rfl ?_
  refine WL.lss rfl rfl rfl ?_
  refine WL.nil ?_
  -- cond
  refine WK.cond rfl (fun h => ?_) (fun h => ?_)
  · have hlt : k < l.length := by simpa using h
    have hc : (l.map str)[k]? = some (str l[k]) := by simp [hlt]
    have hj := join_succ hlt
    have hle := join_le (l := l) (k := k + 1)
    rw [hj, List.length_append, List.length_append] at hle
    simp only [List.length_cons, List.length_nil] at hle
    have hlen : l.length ≤ 1000000000 := Nat.le_trans (join_ge l) hl
    refine WK.skip ?_
    refine WK.seq ?_
    refine WK.block ?_
    refine WK.region ?_
    refine WL.mvS rfl rfl ?_
    refine WL.mvL rfl rfl ?_
    refine WL.mvI rfl rfl ?_
    refine WL.indexE rfl rfl hs' rfl rfl hc fun p14 hp14 => ?_
    refine WL.load1 rfl rfl (hp14.rd (Le.refl _)) ?_
    refine WL.addS rfl rfl rfl (by omega) ?_
    refine WL.addS rfl rfl rfl (by simp only [List.length_append, List.length_cons, List.length_nil]; omega) ?_
    refine WL.asS rfl rfl ?_
    refine WL.nil ?_
    refine WK.blk ?_
    refine WK.region ?_
    refine WL.mvI rfl rfl ?_
    refine WL.add rfl rfl rfl (by omega) ?_
    refine WL.asI rfl rfl ?_
    refine WL.nil ?_
    -- again
    refine WK.again (k + 1) (by omega) (by omega) ⟨rfl, ?_, rfl, trivial⟩ rfl rfl
    exact congrArg str (by rw [hj, List.append_assoc])
  · skip
    have hk2 : k = l.length := by simp at h; omega
    refine WK.exit ?_
    refine WK.exit_code ?_
    refine WK.exit_lp ?_
    refine WK.exit_hit ?_
    refine WK.seq ?_
    refine WK.region ?_
    refine WL.mvS rfl rfl ?_
    refine WL.asS rfl rfl ?_
    refine WL.nil ?_
    refine WK.ret ?_
    -- end
    refine WK.end1 rfl (show _ = str _ from rfl) ?_
    subst hk2
    rw [List.take_length]
theorem join_pm {R : Nat → Obj → Prop} {v : Value} {l : List (List UInt8)} (hs : Sl R 1 v (l.map str)) (hl : (joinL l).length ≤ 1000000000) : Pm Tryd.prog 12 [v] R (str (joinL l)) := by
  obtain ⟨a, c, hv, _⟩ := hs.shape
  rw [List.length_map] at hv
  subst hv
  refine Pm.of Tryd.func12 Tryd.ntmps12 rfl rfl fun m w hR => ?_
  have hs' : Sl (fun b o => m b = some o) 1 _ _ := hs.mono hR
  refine WK.seq ?_
  refine WK.region ?_
  refine WL.asC rfl ?_
  refine WL.nil ?_
  refine WK.seq ?_
  refine WK.region ?_
  refine WL.alloc rfl fun b3 => ?_
  refine WL.nil ?_
  refine WK.seq ?_
  refine WK.seq ?_
  refine WK.region ?_
  refine WL.mvL rfl rfl ?_
  refine WL.lenSl rfl rfl ?_
  refine WL.mvC rfl ?_
  refine WL.nil ?_
  refine WK.block ?_
  -- loop
  have hB := IsB.new b3
  refine WK.loop (G := Nat × Bun) (fun g => [(8, .int .i64 (g.1 : Nat)), (7, .int .i64 (l.length : Nat)), (6, .slice a l.length c), (3, .pointer (some ⟨b3, 0, none⟩))]) (fun _ => m) (fun g => [g.2]) (fun g => g.1 ≤ l.length ∧ IsB g.2 b3 (joinL (l.take g.1))) (fun g => l.length - g.1) (0, _) ⟨by simp, hB⟩ ⟨rfl, rfl, rfl, rfl, trivial⟩ rfl rfl ?_
  rintro ⟨k, bk⟩ ρ ⟨hk, hB⟩
  replace hk : k ≤ l.length := hk
  replace hB : IsB bk b3 (joinL (l.take k)) := hB
  refine WK.seq ?_
  refine WK.region ?_
  refine WL.lss rfl rfl rfl ?_
  refine WL.nil ?_
  refine WK.seq ?_
  -- cond
  refine WK.cond rfl (fun h => ?_) (fun h => ?_)
  · have hlt : k < l.length := by simpa using h
    have hc : (l.map str)[k]? = some (str l[k]) := by simp [hlt]
    have hj := join_succ hlt
    have hle := join_le (l := l) (k := k + 1)
    rw [hj, List.length_append, List.length_append] at hle
    simp only [List.length_cons, List.length_nil] at hle
    have hlen : l.length ≤ 1000000000 := Nat.le_trans (join_ge l) hl
    refine WK.skip ?_
    refine WK.seq ?_
    refine WK.block ?_
    refine WK.seq ?_
    refine WK.region ?_
    refine WL.indexE rfl rfl hs' rfl rfl hc fun p10 hp10 => ?_
    refine WL.load1 rfl rfl (hp10.rd (Le.refl _)) ?_
    refine WL.asS rfl rfl ?_
    refine WL.nil ?_
    refine WK.seq ?_
    refine WK.region ?_
    refine WL.mvS rfl rfl ?_
    refine WL.call (writeString_tr _ hB _ (by omega)) rfl rfl rfl (by first | exact .here .none | exact .there (.here .none) | exact .there (.there (.here .none)) | exact .there (.there (.there (.here .none)))) ?_
    intro u m1 back hle hΦ; obtain ⟨hm1, bk, hbk1, hB⟩ := hΦ; subst m1; subst hbk1
    refine WL.nil ?_
    refine WK.region ?_
    refine WL.call (writeString_tr _ hB [13, 10] (by simp only [List.length_append, List.length_cons, List.length_nil]; omega)) rfl rfl rfl (by first | exact .here .none | exact .there (.here .none) | exact .there (.there (.here .none)) | exact .there (.there (.there (.here .none)))) ?_
    intro u m1 back hle hΦ; obtain ⟨hm1, bk, hbk1, hB⟩ := hΦ; subst m1; subst hbk1
    refine WL.nil ?_
    refine WK.blk ?_
    refine WK.region ?_
    refine WL.add rfl rfl rfl (by omega) ?_
    refine WL.mvI rfl rfl ?_
    refine WL.nil ?_
    -- again
    refine WK.again (k + 1, bk) ⟨by show k + 1 ≤ _; omega, ?_⟩ (by show l.length - (k + 1) < l.length - k; omega) ⟨rfl, rfl, rfl, rfl, trivial⟩ rfl rfl
    show IsB bk b3 (joinL (l.take (k + 1)))
    rw [hj, ← List.append_assoc]
    exact hB
  · skip
    have hk2 : k = l.length := by simp at h; omega
    have hB2 : IsB bk b3 (joinL l) := by rw [hk2, List.take_length] at hB; exact hB
    refine WK.exit ?_
    refine WK.exit_code ?_
    refine WK.exit_lp ?_
    refine WK.exit_hit ?_
    refine WK.seq ?_
    refine WK.region ?_
    refine WL.call (string_tr _ hB2 (by omega)) rfl rfl rfl (.here .none) ?_
    intro u m1 back hle hΦ; obtain ⟨hu1, hm1, hbk1⟩ := hΦ; subst m1; subst hu1; subst hbk1
    refine WL.asS rfl rfl ?_
    refine WL.nil ?_
    refine WK.ret ?_
    -- end
    refine WK.end1 rfl (show _ = str _ from rfl) ?_
    rfl

/-! The last blank of a text. -/
def blCh (c : UInt8) : Bool := decide ((c.toNat : Int) = 32) || decide ((c.toNat : Int) = 9)
def lastTo (l : List UInt8) : Nat → Int
  | 0 => -1
  | k + 1 => if blCh (l.getD k 0) then k else lastTo l k
theorem lastTo_bd (l : List UInt8) : ∀ k, -1 ≤ lastTo l k ∧ lastTo l k < k
  | 0 => by simp [lastTo]
  | k + 1 => by
    have := lastTo_bd l k
    simp only [lastTo]
    split <;> omega
theorem blCh_set (c : UInt8) : ([32, 9] : List UInt8).contains c = blCh c := by
  have e : ∀ k : UInt8, (c == k) = decide ((c.toNat : Int) = k.toNat) := by
    intro k
    by_cases h : c = k
    · subst h; rw [decide_eq_true rfl]; exact beq_self_eq_true c
    · have h2 : c.toNat ≠ k.toNat := fun e => h (UInt8.toNat_inj.1 e)
      have h3 : ¬ ((c.toNat : Int) = k.toNat) := by omega
      rw [decide_eq_false h3]; exact beq_eq_false_iff_ne.2 h
  have e1 : (c == (32 : UInt8)) = decide ((c.toNat : Int) = 32) := e 32
  have e2 : (c == (9 : UInt8)) = decide ((c.toNat : Int) = 9) := e 9
  simp only [List.contains, List.elem, e1, e2, blCh]
  cases decide ((c.toNat : Int) = 32) <;> cases decide ((c.toNat : Int) = 9) <;> rfl
theorem setBl (c : UInt8) : (Lib.setCells [32, 9])[c.toNat]? = some (.bool (blCh c)) := by
  have h := Lib.fold_at [32, 9] (Array.replicate 256 (.bool false)) false c (by
    have := c.toNat_lt
    simp [this])
  rw [Bool.false_or, blCh_set] at h
  exact h
theorem should_pu (n : Int) : Pu Tryd.prog 70 [.int .i64 n] (.bool (decide (8 < n))) := fun w =>
  (Tryd.strings_shouldUseASCIISet n w).mono fun e w' h => by
    obtain ⟨rfl, rfl⟩ := h
    exact ⟨rfl, rfl, rfl, rfl, Nat.le_refl _, fun _ _ => rfl⟩
theorem makeSet_pu : Pu Tryd.prog 71 [str [32, 9]] (.tuple #[.agg (Lib.setCells [32, 9]), .bool true]) := fun w =>
  (Tryd.strings_makeASCIISet (fun w => by kernel_rfl) ⟨#[32, 9]⟩ w (by decide) (by
    intro j b hb
    have : b ∈ ([32, 9] : List UInt8) := List.mem_of_getElem? hb
    simp at this
    rcases this with rfl | rfl <;> decide)).mono fun e w' h => by
    obtain ⟨rfl, rfl⟩ := h
    refine ⟨rfl, rfl, rfl, rfl, (by show _ ≤ (w.heap.push _).size; simp), fun b hb => ?_⟩
    show (w.heap.push _)[b]? = w.heap[b]?
    simp [Array.getElem?_push, Nat.ne_of_lt hb]
theorem contains_pm {R : Nat → Obj → Prop} {b : Nat} {arr : Array Value} {t : TypeId} {fz : Nat × Nat} (hR : R b (.cells arr t fz)) (x : UInt8) (v : Bool) (hv : arr[x.toNat]? = some (.bool v)) :
    Pm Tryd.prog 72 [.pointer (some ⟨b, 0, none⟩), byt x] R (.bool v) := fun w hw =>
  (Tryd.asciiSet_contains b x v w (by rw [cell_at (hw _ _ hR)]; exact hv)).mono fun e w' h => by
    obtain ⟨rfl, rfl⟩ := h
    exact ⟨rfl, rfl, rfl, rfl, Nat.le_refl _, fun _ _ => rfl⟩

theorem cells_agg (a : Array Value) : (Value.agg a).cells = a := rfl
theorem setOne : ∀ c ∈ (Lib.setCells [32, 9]).toList, c.oneCell' = true := by decide +kernel
instance : Ty Tryd.prog 84 true 256 256 (.agg (Array.replicate 256 (.bool false))) := ⟨by kernel_rfl⟩
theorem lastIndexAny_pu (s : List UInt8) (h8 : 8 < s.length) (hs : s.length ≤ 1000000000) : Pu Tryd.prog 43 [str s, str [32, 9]] (.int .i64 (lastTo s s.length)) := by
  refine Pu.of Tryd.func43 Tryd.ntmps43 rfl rfl fun w => ?_
  refine WK.seq ?_
  refine WK.region ?_
  refine WL.asC rfl ?_
  refine WL.nil ?_
  refine WK.seq ?_
  refine WK.seq ?_
  refine WK.region ?_
  refine WL.mvS rfl rfl ?_
  refine WL.eqlS rfl rfl rfl ?_
  refine WL.nil ?_
  -- cond
  refine WK.cond rfl (fun h1 => ?_) (fun h1 => ?_)
  · exact absurd h1 (by decide)
  · skip
    refine WK.skip ?_
    refine WK.seq ?_
    refine WK.seq ?_
    refine WK.region ?_
    refine WL.mvS rfl rfl ?_
    refine WL.lenS rfl rfl ?_
    refine WL.eql rfl rfl rfl ?_
    refine WL.nil ?_
    -- cond
    refine WK.cond rfl (fun h2 => ?_) (fun h2 => ?_)
    · exfalso; simp at h2; omega
    · skip
      refine WK.skip ?_
      refine WK.seq ?_
      refine WK.seq ?_
      refine WK.region ?_
      refine WL.mvS rfl rfl ?_
      refine WL.lenS rfl rfl ?_
      refine WL.callp (should_pu _) rfl rfl rfl ?_
      refine WL.nil ?_
      -- cond
      refine WK.cond rfl (fun h3 => ?_) (fun h3 => ?_)
      · skip
        refine WK.seq ?_
        refine WK.region ?_
        refine WL.mvS rfl rfl ?_
        refine WL.callp (makeSet_pu) rfl rfl rfl ?_
        refine WL.mvT rfl rfl ?_
        refine WL.extract rfl rfl rfl ?_
        refine WL.extract rfl rfl rfl ?_
        refine WL.alloc rfl fun b6 => ?_
        refine WL.storeAO rfl (show _ = Value.agg (Lib.setCells [32, 9]) from rfl) (cells_agg _) (by exact .here) (by exact Lib.setCells_size [32, 9]) (by exact Array.size_replicate) (by exact setOne) ?_
        refine WL.asB rfl rfl ?_
        refine WL.nil ?_
        refine WK.seq ?_
        refine WK.region ?_
        refine WL.mvB rfl rfl ?_
        refine WL.nil ?_
        -- cond
        refine WK.cond rfl (fun h4 => ?_) (fun h4 => ?_)
        · refine WK.seq ?_
          refine WK.seq ?_
          refine WK.region ?_
          refine WL.mvS rfl rfl ?_
          refine WL.lenS rfl rfl ?_
          refine WL.sub rfl rfl rfl (by omega) ?_
          refine WL.asI rfl rfl ?_
          refine WL.nil ?_
          refine WK.block ?_
          -- loop
          refine WK.loop (fun (k : Nat) => [(8, .int .i64 ((k : Int) - 1)), (0, str s), (6, .pointer (some ⟨b6, 0, none⟩))]) (fun _ _ => none) (fun _ => [[(b6, .cells (Lib.setCells [32, 9]) 84 (0, 0))]]) (fun k => k ≤ s.length ∧ lastTo s k = lastTo s s.length) (fun k => k) s.length ⟨Nat.le_refl _, rfl⟩ ⟨rfl, rfl, rfl, trivial⟩ rfl rfl ?_
          rintro k ρ ⟨hk, hl⟩
          refine WK.seq ?_
          refine WK.seq ?_
          refine WK.region ?_
          refine WL.mvI rfl rfl ?_
          refine WL.geq rfl rfl rfl ?_
          refine WL.nil ?_
          -- cond
          refine WK.cond rfl (fun h => ?_) (fun h => ?_)
          · obtain ⟨j, rfl⟩ : ∃ j, k = j + 1 := ⟨k - 1, by simp at h; omega⟩
            have hj : j < s.length := by omega
            have hc : s[j]? = some s[j] := by simp [hj]
            refine WK.skip ?_
            refine WK.seq ?_
            refine WK.block ?_
            refine WK.seq ?_
            refine WK.region ?_
            refine WL.mvS rfl rfl ?_
            refine WL.mvI rfl rfl ?_
            refine WL.indexS rfl rfl rfl (show _ = ((j : Nat) : Int) by omega) hc ?_
            refine WL.callm (contains_pm (.inr (At.mem .here _ (List.mem_singleton.2 rfl))) s[j] (blCh s[j]) (setBl s[j])) rfl rfl rfl ?_
            refine WL.nil ?_
            -- cond
            refine WK.cond rfl (fun h5 => ?_) (fun h5 => ?_)
            · refine WK.seq ?_
              refine WK.region ?_
              refine WL.mvI rfl rfl ?_
              refine WL.asI rfl rfl ?_
              refine WL.nil ?_
              refine WK.ret ?_
              refine WK.ret_blk ?_
              refine WK.ret_code ?_
              refine WK.ret_lp ?_
              refine WK.ret_blk ?_
              refine WK.ret_code ?_
              refine WK.ret_code ?_
              -- end
              refine WK.end1 rfl (show _ = .int _ _ from rfl) ?_
              rw [← hl, lastTo, if_pos (by simpa [hj] using h5)]
              congr 1; omega
            · skip
              refine WK.skip ?_
              refine WK.blk ?_
              refine WK.region ?_
              refine WL.mvI rfl rfl ?_
              refine WL.sub rfl rfl rfl (by omega) ?_
              refine WL.asI rfl rfl ?_
              refine WL.nil ?_
              -- again
              exact WK.again j ⟨by omega, by rw [← hl, lastTo, if_neg (by simp [hj, h5])]⟩ (by omega) ⟨by show Value.int _ _ = _; congr 1; omega, rfl, rfl, trivial⟩ rfl rfl
          · skip
            obtain rfl : k = 0 := by simp at h; omega
            refine WK.exit ?_
            refine WK.exit_code ?_
            refine WK.exit_lp ?_
            refine WK.exit_hit ?_
            refine WK.seq ?_
            refine WK.region ?_
            refine WL.asC rfl ?_
            refine WL.nil ?_
            refine WK.ret ?_
            refine WK.ret_code ?_
            -- end
            refine WK.end1 rfl (show _ = .int _ _ from rfl) ?_
            rw [← hl]; rfl
        · exact absurd h4 (by decide)
      · exfalso; simp at h3; omega

/-! Lines that are not too long (7.2). -/
def cutAt (w : Nat) (s : List UInt8) : Int := lastTo ((s.take (w + 1)).drop 1) w + 1
def foldL (w : Nat) : Nat → List UInt8 → List (List UInt8)
  | 0, s => [s]
  | n + 1, s => if w < s.length then (if cutAt w s = 0 then [s] else s.take (cutAt w s).toNat :: foldL w n (s.drop (cutAt w s).toNat)) else [s]
theorem cutAt_bd (w : Nat) (s : List UInt8) : 0 ≤ cutAt w s ∧ cutAt w s ≤ w := by
  have := lastTo_bd ((s.take (w + 1)).drop 1) w
  unfold cutAt; omega
theorem foldL_stop {w n : Nat} {s : List UInt8} (h : ¬ w < s.length ∨ cutAt w s = 0) : foldL w n s = [s] := by
  cases n with
  | zero => rfl
  | succ n =>
    simp only [foldL]
    rcases h with h | h
    · rw [if_neg h]
    · rw [if_pos h]; split <;> rfl
theorem foldL_go {w n : Nat} {s : List UInt8} (h1 : w < s.length) (h2 : cutAt w s ≠ 0) (hn : s.length ≤ n + 1) : foldL w (n + 1) s = s.take (cutAt w s).toNat :: foldL w n (s.drop (cutAt w s).toNat) := by
  simp only [foldL, if_pos h1, if_neg h2]
theorem lia_at {t : List UInt8} (h : 75 < t.length) (hs : t.length ≤ 1000000000) : Pu Tryd.prog 43 [str ((t.take 76).drop 1), str [32, 9]] (.int .i64 (cutAt 75 t - 1)) := by
  have e : cutAt 75 t - 1 = lastTo ((t.take 76).drop 1) ((t.take 76).drop 1).length := by
    have hl : ((t.take 76).drop 1).length = 75 := by simp; omega
    rw [hl]; show lastTo ((t.take 76).drop 1) 75 + 1 - 1 = _; omega
  rw [e]
  exact lastIndexAny_pu _ (by simp; omega) (by simp; omega)
theorem fold_tr (m : Imm) (s : List UInt8) (hs : s.length ≤ 1000000000) :
    Tr Tryd.prog 21 [str s, .int .i64 75] m [] fun u m' own' => m' = m ∧ ∃ blk, own' = [blk] ∧ OSl blk 1 9 u ((foldL 75 s.length s).map str) := by
  refine Tr.of Tryd.func21 Tryd.ntmps21 rfl rfl fun w => ?_
  refine WK.seq ?_
  refine WK.region ?_
  refine WL.asC rfl ?_
  refine WL.nil ?_
  refine WK.seq ?_
  refine WK.region ?_
  refine WL.mvI rfl rfl ?_
  refine WL.max rfl rfl rfl ?_
  refine WL.asI rfl rfl ?_
  refine WL.nil ?_
  refine WK.seq ?_
  refine WK.region ?_
  refine WL.asC rfl ?_
  refine WL.nil ?_
  refine WK.seq ?_
  refine WK.block ?_
  -- loop
  refine WK.flat (own' := [[]]) rfl ?_
  refine WK.loop (G := List UInt8 × Nat × List (List UInt8) × Value × Bun) (fun g => [(0, str g.1), (5, g.2.2.2.1), (1, .int .i64 75)]) (fun _ => m) (fun g => [g.2.2.2.2])
    (fun g => g.1.length ≤ s.length ∧ g.1.length ≤ g.2.1 ∧ g.2.2.1.length + g.1.length ≤ s.length ∧ g.2.2.1 ++ foldL 75 g.2.1 g.1 = foldL 75 s.length s ∧ OSl g.2.2.2.2 1 9 g.2.2.2.1 (g.2.2.1.map str)) (fun g => g.1.length)
    (s, s.length, [], .slice none 0 0, []) ⟨Nat.le_refl _, Nat.le_refl _, by simp, by simp, OSl.nil _ _ _⟩ ⟨rfl, rfl, rfl, trivial⟩ rfl rfl ?_
  rintro ⟨t, n, X, v, bk⟩ ρ ⟨ht, htn, hXt, hX, hO⟩
  replace ht : t.length ≤ s.length := ht
  replace htn : t.length ≤ n := htn
  replace hXt : X.length + t.length ≤ s.length := hXt
  replace hX : X ++ foldL 75 n t = foldL 75 s.length s := hX
  replace hO : OSl bk 1 9 v (X.map str) := hO
  obtain ⟨a5, c5, hv5, _⟩ := hO.shape
  rw [List.length_map] at hv5
  subst hv5
  refine WK.seq ?_
  refine WK.seq ?_
  refine WK.region ?_
  refine WL.mvS rfl rfl ?_
  refine WL.lenS rfl rfl ?_
  refine WL.mvI rfl rfl ?_
  refine WL.gtr rfl rfl rfl ?_
  refine WL.nil ?_
  -- cond
  refine WK.cond rfl (fun h => ?_) (fun h => ?_)
  · have hlt : 75 < t.length := by simp at h; omega
    have hbd := cutAt_bd 75 t
    refine WK.skip ?_
    refine WK.block ?_
    refine WK.seq ?_
    refine WK.region ?_
    refine WL.mvS rfl rfl ?_
    refine WL.mvI rfl rfl ?_
    refine WL.add rfl rfl rfl (by omega) ?_
    refine WL.sliceSLH rfl rfl rfl (lo' := 1) (hi' := 76) rfl rfl rfl (by decide) (by show 76 ≤ t.length; omega) ?_
    refine WL.callp (lia_at hlt (by omega)) rfl rfl rfl ?_
    refine WL.add rfl rfl rfl (by omega) ?_
    refine WL.asI rfl rfl ?_
    refine WL.nil ?_
    refine WK.seq ?_
    refine WK.seq ?_
    refine WK.region ?_
    refine WL.mvI rfl rfl ?_
    refine WL.eql rfl rfl rfl ?_
    refine WL.nil ?_
    -- cond
    refine WK.cond rfl (fun h2 => ?_) (fun h2 => ?_)
    · have h3 : cutAt 75 t = 0 := by simp at h2; omega
      refine WK.exit ?_
      refine WK.exit_code ?_
      refine WK.exit_miss rfl ?_
      refine WK.exit_lp ?_
      refine WK.exit_hit ?_
      refine WK.seq ?_
      refine WK.region ?_
      refine WL.mvL rfl rfl ?_
      refine WL.mvS rfl rfl ?_
      refine WL.buildSlice rfl [(str _)] rfl rfl ⟨Fit.one rfl, trivial⟩ rfl fun b32 blk32 v32 hb32 hO32 => ?_
      obtain ⟨a32, c32, hv32, hc32⟩ := hO32.shape; subst hv32
      refine WL.append rfl rfl hO (by first | exact .here | exact .there .here | exact .there (.there .here) | exact .there (.there (.there .here)) | exact .there (.there (.there (.there .here))) | exact .there (.there (.there (.there (.there .here))))) rfl (hO32.sl fun p hp => .inr (At.mem (by first | exact .here | exact .there .here | exact .there (.there .here) | exact .there (.there (.there .here)) | exact .there (.there (.there (.there .here))) | exact .there (.there (.there (.there (.there .here))))) p hp)) rfl rfl (by simp; omega) _ (fun _ => (by first | exact .here | exact .there .here | exact .there (.there .here) | exact .there (.there (.there .here)) | exact .there (.there (.there (.there .here))) | exact .there (.there (.there (.there (.there .here)))))) fun v33 blk33 hO33 => ?_
      obtain ⟨a33, c33, hv33, hc33⟩ := hO33.shape; subst hv33
      refine WL.drop (.drop .refl) ?_
      refine WL.asL rfl rfl ?_
      refine WL.nil ?_
      refine WK.ret ?_
      -- end
      refine WK.end1 rfl (show _ = .slice _ _ _ from rfl) ?_
      refine ⟨rfl, _, rfl, ?_⟩
      rw [← hX, foldL_stop (.inr h3), List.map_append]
      exact hO33
    · skip
      have h3 : cutAt 75 t ≠ 0 := by simp at h2; omega
      obtain ⟨n, rfl⟩ : ∃ n', n = n' + 1 := ⟨n - 1, by omega⟩
      refine WK.skip ?_
      refine WK.seq ?_
      refine WK.region ?_
      refine WL.mvL rfl rfl ?_
      refine WL.mvS rfl rfl ?_
      refine WL.mvI rfl rfl ?_
      refine WL.sliceSH rfl rfl rfl (hi' := (cutAt 75 t).toNat) (by omega) (by show (cutAt 75 t).toNat ≤ t.length; omega) ?_
      refine WL.buildSlice rfl [(str _)] rfl rfl ⟨Fit.one rfl, trivial⟩ rfl fun b25 blk25 v25 hb25 hO25 => ?_
      obtain ⟨a25, c25, hv25, hc25⟩ := hO25.shape; subst hv25
      refine WL.append rfl rfl hO (by first | exact .here | exact .there .here | exact .there (.there .here) | exact .there (.there (.there .here)) | exact .there (.there (.there (.there .here))) | exact .there (.there (.there (.there (.there .here))))) rfl (hO25.sl fun p hp => .inr (At.mem (by first | exact .here | exact .there .here | exact .there (.there .here) | exact .there (.there (.there .here)) | exact .there (.there (.there (.there .here))) | exact .there (.there (.there (.there (.there .here))))) p hp)) rfl rfl (by simp; omega) _ (fun _ => (by first | exact .here | exact .there .here | exact .there (.there .here) | exact .there (.there (.there .here)) | exact .there (.there (.there (.there .here))) | exact .there (.there (.there (.there (.there .here)))))) fun v26 blk26 hO26 => ?_
      obtain ⟨a26, c26, hv26, hc26⟩ := hO26.shape; subst hv26
      refine WL.drop (.drop .refl) ?_
      refine WL.asL rfl rfl ?_
      refine WL.nil ?_
      refine WK.region ?_
      refine WL.mvS rfl rfl ?_
      refine WL.mvI rfl rfl ?_
      refine WL.sliceSL rfl rfl rfl (lo' := (cutAt 75 t).toNat) (by omega) (by show (cutAt 75 t).toNat ≤ t.length; omega) ?_
      refine WL.asS rfl rfl ?_
      refine WL.nil ?_
      refine WK.blk ?_
      -- again
      refine WK.again (t.drop (cutAt 75 t).toNat, n, X ++ [t.take (cutAt 75 t).toNat], _, _) ⟨?_, ?_, ?_, ?_, ?_⟩ ?_ ⟨rfl, rfl, rfl, trivial⟩ rfl rfl
      · show (t.drop _).length ≤ _
        rw [List.length_drop]; omega
      · show (t.drop _).length ≤ n
        rw [List.length_drop]; omega
      · show (X ++ [_]).length + (t.drop _).length ≤ _
        rw [List.length_drop, List.length_append, List.length_singleton]; omega
      · show (X ++ [_]) ++ foldL 75 n (t.drop _) = _
        rw [← hX, foldL_go hlt h3 (by omega)]; simp
      · show OSl _ 1 _ _ ((X ++ [_]).map str)
        rw [List.map_append]
        exact hO26
      · show (t.drop _).length < t.length
        rw [List.length_drop]; omega
  · skip
    have hlt : ¬ 75 < t.length := by simp at h; omega
    refine WK.exit ?_
    refine WK.exit_code ?_
    refine WK.exit_lp ?_
    refine WK.exit_hit ?_
    refine WK.seq ?_
    refine WK.region ?_
    refine WL.mvL rfl rfl ?_
    refine WL.mvS rfl rfl ?_
    refine WL.buildSlice rfl [(str _)] rfl rfl ⟨Fit.one rfl, trivial⟩ rfl fun b32 blk32 v32 hb32 hO32 => ?_
    obtain ⟨a32, c32, hv32, hc32⟩ := hO32.shape; subst hv32
    refine WL.append rfl rfl hO (by first | exact .here | exact .there .here | exact .there (.there .here) | exact .there (.there (.there .here)) | exact .there (.there (.there (.there .here))) | exact .there (.there (.there (.there (.there .here))))) rfl (hO32.sl fun p hp => .inr (At.mem (by first | exact .here | exact .there .here | exact .there (.there .here) | exact .there (.there (.there .here)) | exact .there (.there (.there (.there .here))) | exact .there (.there (.there (.there (.there .here))))) p hp)) rfl rfl (by simp; omega) _ (fun _ => (by first | exact .here | exact .there .here | exact .there (.there .here) | exact .there (.there (.there .here)) | exact .there (.there (.there (.there .here))) | exact .there (.there (.there (.there (.there .here)))))) fun v33 blk33 hO33 => ?_
    obtain ⟨a33, c33, hv33, hc33⟩ := hO33.shape; subst hv33
    refine WL.drop (.drop .refl) ?_
    refine WL.asL rfl rfl ?_
    refine WL.nil ?_
    refine WK.ret ?_
    -- end
    refine WK.end1 rfl (show _ = .slice _ _ _ from rfl) ?_
    refine ⟨rfl, _, rfl, ?_⟩
    rw [← hX, foldL_stop (.inl hlt), List.map_append]
    exact hO33

theorem rblank_pu (s : List UInt8) (k : Nat) (hs : s.length ≤ 1000000000) : Pu Tryd.prog 53 [str s, .int .i64 (k : Nat)] (.bool (decide ((k : Int) < s.length) && blCh (s.getD k 0))) := by
  refine Pu.of Tryd.func53 Tryd.ntmps53 rfl rfl fun w => ?_
  have hc : decide ((k : Int) < s.length) = true → s[k]? = some (s.getD k 0) := by
    intro h; have : k < s.length := by simp at h; omega
    simp [this]
  refine WK.seq ?_
  refine WK.region ?_
  refine WL.asC rfl ?_
  refine WL.nil ?_
  refine WK.seq ?_
  refine WK.region ?_
  refine WL.mvI rfl rfl ?_
  refine WL.mvS rfl rfl ?_
  refine WL.lenS rfl rfl ?_
  refine WL.lss rfl rfl rfl ?_
  refine WL.mvB rfl rfl ?_
  refine WL.guardSplit rfl rfl (fun h1 => ?_) (fun h1 => ?_)
  · skip
    refine WL.mvS rfl rfl ?_
    refine WL.guard rfl h1 ?_
    refine WL.mvI rfl rfl ?_
    refine WL.guard rfl h1 ?_
    refine WL.indexS rfl rfl rfl rfl (hc h1) ?_
    refine WL.guard rfl h1 ?_
    refine WL.eql rfl rfl rfl ?_
    refine WL.guard rfl h1 ?_
    refine WL.mvB rfl rfl ?_
    refine WL.guardSplit rfl rfl (fun h2 => ?_) (fun h2 => ?_)
    · skip
      refine WL.mvS rfl rfl ?_
      refine WL.guard rfl h2 ?_
      refine WL.mvI rfl rfl ?_
      refine WL.guard rfl h2 ?_
      refine WL.indexS rfl rfl rfl rfl (hc h1) ?_
      refine WL.guard rfl h2 ?_
      refine WL.eql rfl rfl rfl ?_
      refine WL.guard rfl h1 ?_
      refine WL.pickF rfl rfl h2 rfl ?_
      refine WL.pickT rfl rfl h1 rfl ?_
      refine WL.asB rfl rfl ?_
      refine WL.nil ?_
      refine WK.ret ?_
      refine WK.end1 rfl (show _ = .bool _ from rfl) ?_
      simp only [blCh, *, Bool.not_true, Bool.not_false, Bool.true_and, Bool.false_and, Bool.true_or, Bool.false_or]
    · skip
      refine WL.guardSkip rfl h2 rfl ?_
      refine WL.guardSkip rfl h2 rfl ?_
      refine WL.guardSkip rfl h2 rfl ?_
      refine WL.guard rfl h1 ?_
      refine WL.pickT rfl rfl h2 rfl ?_
      refine WL.pickT rfl rfl h1 rfl ?_
      refine WL.asB rfl rfl ?_
      refine WL.nil ?_
      refine WK.ret ?_
      refine WK.end1 rfl (show _ = .bool _ from rfl) ?_
      simp only [blCh, *, Bool.not_true, Bool.not_false, Bool.true_and, Bool.false_and, Bool.true_or, Bool.false_or]
  · skip
    refine WL.guardSkip rfl h1 rfl ?_
    refine WL.guardSkip rfl h1 rfl ?_
    refine WL.guardSkip rfl h1 rfl ?_
    refine WL.guardSkip rfl h1 rfl ?_
    refine WL.guardNone rfl rfl ?_
    refine WL.guardNone rfl rfl ?_
    refine WL.guardNone rfl rfl ?_
    refine WL.guardNone rfl rfl ?_
    refine WL.guardSkip rfl h1 rfl ?_
    refine WL.pickF rfl rfl h1 rfl ?_
    refine WL.asB rfl rfl ?_
    refine WL.nil ?_
    refine WK.ret ?_
    refine WK.end1 rfl (show _ = .bool _ from rfl) ?_
    simp only [blCh, *, Bool.not_true, Bool.not_false, Bool.true_and, Bool.false_and, Bool.true_or, Bool.false_or]
theorem getD_cut {t : List UInt8} {j : Nat} (hj : j < 75) (h : 75 < t.length) : ((t.take 76).drop 1).getD j 0 = t.getD (j + 1) 0 := by
  simp only [List.getD_eq_getElem?_getD, List.getElem?_drop, List.getElem?_take]
  rw [if_pos (by omega), Nat.add_comm]
theorem rfold_tr (m : Imm) (s : List UInt8) (hs : s.length ≤ 1000000000) :
    Tr Tryd.prog 31 [str s, .int .i64 75] m [] fun u m' own' => m' = m ∧ ∃ blk, own' = [blk] ∧ OSl blk 1 9 u ((foldL 75 s.length s).map str) := by
  refine Tr.of Tryd.func31 Tryd.ntmps31 rfl rfl fun w => ?_
  refine WK.seq ?_
  refine WK.region ?_
  refine WL.asC rfl ?_
  refine WL.nil ?_
  refine WK.seq ?_
  refine WK.region ?_
  refine WL.mvI rfl rfl ?_
  refine WL.max rfl rfl rfl ?_
  refine WL.asI rfl rfl ?_
  refine WL.nil ?_
  refine WK.seq ?_
  refine WK.region ?_
  refine WL.asC rfl ?_
  refine WL.nil ?_
  refine WK.seq ?_
  refine WK.block ?_
  -- loop
  refine WK.flat (own' := [[]]) rfl ?_
  refine WK.loop (G := List UInt8 × Nat × List (List UInt8) × Value × Bun) (fun g => [(0, str g.1), (5, g.2.2.2.1), (1, .int .i64 75)]) (fun _ => m) (fun g => [g.2.2.2.2])
    (fun g => g.1.length ≤ s.length ∧ g.1.length ≤ g.2.1 ∧ g.2.2.1.length + g.1.length ≤ s.length ∧ g.2.2.1 ++ foldL 75 g.2.1 g.1 = foldL 75 s.length s ∧ OSl g.2.2.2.2 1 9 g.2.2.2.1 (g.2.2.1.map str)) (fun g => g.1.length)
    (s, s.length, [], .slice none 0 0, []) ⟨Nat.le_refl _, Nat.le_refl _, by simp, by simp, OSl.nil _ _ _⟩ ⟨rfl, rfl, rfl, trivial⟩ rfl rfl ?_
  rintro ⟨t, n, X, v, bk⟩ ρ ⟨ht, htn, hXt, hX, hO⟩
  replace ht : t.length ≤ s.length := ht
  replace htn : t.length ≤ n := htn
  replace hXt : X.length + t.length ≤ s.length := hXt
  replace hX : X ++ foldL 75 n t = foldL 75 s.length s := hX
  replace hO : OSl bk 1 9 v (X.map str) := hO
  obtain ⟨a5, c5, hv5, _⟩ := hO.shape
  rw [List.length_map] at hv5
  subst hv5
  refine WK.seq ?_
  refine WK.seq ?_
  refine WK.region ?_
  refine WL.mvS rfl rfl ?_
  refine WL.lenS rfl rfl ?_
  refine WL.mvI rfl rfl ?_
  refine WL.gtr rfl rfl rfl ?_
  refine WL.nil ?_
  -- cond
  refine WK.cond rfl (fun h => ?_) (fun h => ?_)
  · have hlt : 75 < t.length := by simp at h; omega
    have hbd := cutAt_bd 75 t
    refine WK.skip ?_
    refine WK.block ?_
    refine WK.seq ?_
    refine WK.region ?_
    refine WL.asC rfl ?_
    refine WL.nil ?_
    refine WK.seq ?_
    refine WK.seq ?_
    refine WK.region ?_
    refine WL.asC rfl ?_
    refine WL.nil ?_
    refine WK.block ?_
    -- loop
    refine WK.loop (fun (j : Nat) => [(7, .int .i64 ((j + 1 : Nat) : Int)), (6, .int .i64 (lastTo ((t.take 76).drop 1) j + 1)), (0, str t), (5, .slice a5 X.length c5), (1, .int .i64 75)]) (fun _ => m) (fun _ => [bk]) (fun j => j ≤ 75) (fun j => 75 - j) 0 (by omega) ⟨rfl, rfl, rfl, rfl, rfl, trivial⟩ rfl rfl ?_
    rintro j ρ hj
    replace hj : j ≤ 75 := hj
    refine WK.seq ?_
    refine WK.seq ?_
    refine WK.region ?_
    refine WL.mvI rfl rfl ?_
    refine WL.mvI rfl rfl ?_
    refine WL.leq rfl rfl rfl ?_
    refine WL.nil ?_
    -- cond
    refine WK.cond rfl (fun h4 => ?_) (fun h4 => ?_)
    · have hj2 : j < 75 := by simp at h4; omega
      have e1 : decide (((j + 1 : Nat) : Int) < t.length) = true := by simp; omega
      have e2 := getD_cut hj2 hlt
      refine WK.skip ?_
      refine WK.seq ?_
      refine WK.block ?_
      refine WK.seq ?_
      refine WK.region ?_
      refine WL.mvS rfl rfl ?_
      refine WL.mvI rfl rfl ?_
      refine WL.callp (rblank_pu t (j + 1) (by omega)) rfl rfl rfl ?_
      refine WL.nil ?_
      -- cond
      rw [e1, Bool.true_and]
      refine WK.cond rfl (fun h5 => ?_) (fun h5 => ?_)
      · refine WK.region ?_
        refine WL.mvI rfl rfl ?_
        refine WL.asI rfl rfl ?_
        refine WL.nil ?_
        refine WK.blk ?_
        refine WK.region ?_
        refine WL.mvI rfl rfl ?_
        refine WL.add rfl rfl rfl (by omega) ?_
        refine WL.asI rfl rfl ?_
        refine WL.nil ?_
        -- again
        exact WK.again (j + 1) (by omega) (by omega) ⟨rfl, by show Value.int _ _ = Value.int _ (lastTo _ (j + 1) + 1); rw [lastTo, e2, if_pos h5]; rfl, rfl, rfl, rfl, trivial⟩ rfl rfl
      · skip
        refine WK.skip ?_
        refine WK.blk ?_
        refine WK.region ?_
        refine WL.mvI rfl rfl ?_
        refine WL.add rfl rfl rfl (by omega) ?_
        refine WL.asI rfl rfl ?_
        refine WL.nil ?_
        -- again
        exact WK.again (j + 1) (by omega) (by omega) ⟨rfl, by show Value.int _ _ = Value.int _ (lastTo _ (j + 1) + 1); rw [lastTo, e2, if_neg (by rw [h5]; simp)], rfl, rfl, rfl, trivial⟩ rfl rfl
    · skip
      obtain rfl : j = 75 := by simp at h4; omega
      have hcut : lastTo ((t.take 76).drop 1) 75 + 1 = cutAt 75 t := rfl
      rw [hcut]
      refine WK.exit ?_
      refine WK.exit_code ?_
      refine WK.exit_lp ?_
      refine WK.exit_hit ?_
      refine WK.seq ?_
      refine WK.seq ?_
      refine WK.region ?_
      refine WL.mvI rfl rfl ?_
      refine WL.eql rfl rfl rfl ?_
      refine WL.nil ?_
      -- cond
      refine WK.cond rfl (fun h2 => ?_) (fun h2 => ?_)
      · have h3 : cutAt 75 t = 0 := by simp at h2; omega
        refine WK.exit ?_
        refine WK.exit_code ?_
        refine WK.exit_miss rfl ?_
        refine WK.exit_lp ?_
        refine WK.exit_hit ?_
        refine WK.seq ?_
        refine WK.region ?_
        refine WL.mvL rfl rfl ?_
        refine WL.mvS rfl rfl ?_
        refine WL.buildSlice rfl [(str _)] rfl rfl ⟨Fit.one rfl, trivial⟩ rfl fun b36 blk36 v36 hb36 hO36 => ?_
        obtain ⟨a36, c36, hv36, hc36⟩ := hO36.shape; subst hv36
        refine WL.append rfl rfl hO (by first | exact .here | exact .there .here | exact .there (.there .here) | exact .there (.there (.there .here)) | exact .there (.there (.there (.there .here))) | exact .there (.there (.there (.there (.there .here))))) rfl (hO36.sl fun p hp => .inr (At.mem (by first | exact .here | exact .there .here | exact .there (.there .here) | exact .there (.there (.there .here)) | exact .there (.there (.there (.there .here))) | exact .there (.there (.there (.there (.there .here))))) p hp)) rfl rfl (by simp; omega) _ (fun _ => (by first | exact .here | exact .there .here | exact .there (.there .here) | exact .there (.there (.there .here)) | exact .there (.there (.there (.there .here))) | exact .there (.there (.there (.there (.there .here)))))) fun v37 blk37 hO37 => ?_
        obtain ⟨a37, c37, hv37, hc37⟩ := hO37.shape; subst hv37
        refine WL.drop (.drop .refl) ?_
        refine WL.asL rfl rfl ?_
        refine WL.nil ?_
        refine WK.ret ?_
        -- end
        refine WK.end1 rfl (show _ = .slice _ _ _ from rfl) ?_
        refine ⟨rfl, _, rfl, ?_⟩
        rw [← hX, foldL_stop (.inr h3), List.map_append]
        exact hO37
      · skip
        have h3 : cutAt 75 t ≠ 0 := by simp at h2; omega
        obtain ⟨n, rfl⟩ : ∃ n', n = n' + 1 := ⟨n - 1, by omega⟩
        refine WK.skip ?_
        refine WK.seq ?_
        refine WK.region ?_
        refine WL.mvL rfl rfl ?_
        refine WL.mvS rfl rfl ?_
        refine WL.mvI rfl rfl ?_
        refine WL.sliceSH rfl rfl rfl (hi' := (cutAt 75 t).toNat) (by omega) (by omega) ?_
        refine WL.buildSlice rfl [(str _)] rfl rfl ⟨Fit.one rfl, trivial⟩ rfl fun b29 blk29 v29 hb29 hO29 => ?_
        obtain ⟨a29, c29, hv29, hc29⟩ := hO29.shape; subst hv29
        refine WL.append rfl rfl hO (by first | exact .here | exact .there .here | exact .there (.there .here) | exact .there (.there (.there .here)) | exact .there (.there (.there (.there .here))) | exact .there (.there (.there (.there (.there .here))))) rfl (hO29.sl fun p hp => .inr (At.mem (by first | exact .here | exact .there .here | exact .there (.there .here) | exact .there (.there (.there .here)) | exact .there (.there (.there (.there .here))) | exact .there (.there (.there (.there (.there .here))))) p hp)) rfl rfl (by simp; omega) _ (fun _ => (by first | exact .here | exact .there .here | exact .there (.there .here) | exact .there (.there (.there .here)) | exact .there (.there (.there (.there .here))) | exact .there (.there (.there (.there (.there .here)))))) fun v30 blk30 hO30 => ?_
        obtain ⟨a30, c30, hv30, hc30⟩ := hO30.shape; subst hv30
        refine WL.drop (.drop .refl) ?_
        refine WL.asL rfl rfl ?_
        refine WL.nil ?_
        refine WK.region ?_
        refine WL.mvS rfl rfl ?_
        refine WL.mvI rfl rfl ?_
        refine WL.sliceSL rfl rfl rfl (lo' := (cutAt 75 t).toNat) (by omega) (by omega) ?_
        refine WL.asS rfl rfl ?_
        refine WL.nil ?_
        refine WK.blk ?_
        -- again
        refine WK.again (t.drop (cutAt 75 t).toNat, n, X ++ [t.take (cutAt 75 t).toNat], _, _) ⟨?_, ?_, ?_, ?_, ?_⟩ ?_ ⟨rfl, rfl, rfl, trivial⟩ rfl rfl
        · show (t.drop _).length ≤ _
          rw [List.length_drop]; omega
        · show (t.drop _).length ≤ n
          rw [List.length_drop]; omega
        · show (X ++ [_]).length + (t.drop _).length ≤ _
          rw [List.length_drop, List.length_append, List.length_singleton]; omega
        · show (X ++ [_]) ++ foldL 75 n (t.drop _) = _
          rw [← hX, foldL_go hlt h3 (by omega)]; simp
        · show OSl _ 1 _ _ ((X ++ [_]).map str)
          rw [List.map_append]
          exact hO30
        · show (t.drop _).length < t.length
          rw [List.length_drop]; omega
  · skip
    have hlt : ¬ 75 < t.length := by simp at h; omega
    refine WK.exit ?_
    refine WK.exit_code ?_
    refine WK.exit_lp ?_
    refine WK.exit_hit ?_
    refine WK.seq ?_
    refine WK.region ?_
    refine WL.mvL rfl rfl ?_
    refine WL.mvS rfl rfl ?_
    refine WL.buildSlice rfl [(str _)] rfl rfl ⟨Fit.one rfl, trivial⟩ rfl fun b36 blk36 v36 hb36 hO36 => ?_
    obtain ⟨a36, c36, hv36, hc36⟩ := hO36.shape; subst hv36
    refine WL.append rfl rfl hO (by first | exact .here | exact .there .here | exact .there (.there .here) | exact .there (.there (.there .here)) | exact .there (.there (.there (.there .here))) | exact .there (.there (.there (.there (.there .here))))) rfl (hO36.sl fun p hp => .inr (At.mem (by first | exact .here | exact .there .here | exact .there (.there .here) | exact .there (.there (.there .here)) | exact .there (.there (.there (.there .here))) | exact .there (.there (.there (.there (.there .here))))) p hp)) rfl rfl (by simp; omega) _ (fun _ => (by first | exact .here | exact .there .here | exact .there (.there .here) | exact .there (.there (.there .here)) | exact .there (.there (.there (.there .here))) | exact .there (.there (.there (.there (.there .here)))))) fun v37 blk37 hO37 => ?_
    obtain ⟨a37, c37, hv37, hc37⟩ := hO37.shape; subst hv37
    refine WL.drop (.drop .refl) ?_
    refine WL.asL rfl rfl ?_
    refine WL.nil ?_
    refine WK.ret ?_
    -- end
    refine WK.end1 rfl (show _ = .slice _ _ _ from rfl) ?_
    refine ⟨rfl, _, rfl, ?_⟩
    rw [← hX, foldL_stop (.inl hlt), List.map_append]
    exact hO37
end Go.SL
