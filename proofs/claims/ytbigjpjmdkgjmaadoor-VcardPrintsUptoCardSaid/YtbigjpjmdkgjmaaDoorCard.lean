/- Cards: their values, and how deep they are: the program's functions and the reference's: contracts. -/
import Derived.Test.YtbigjpjmdkgjmaaDoorVc
namespace Go.SL
open Go Go.Proofs
set_option linter.unusedVariables false
set_option linter.unusedSimpArgs false

structure Hd where
  g : List UInt8
  n : List UInt8
  ps : List Par
  v : List UInt8
inductive Crd where
  | mk : List (Hd × List Crd) → Crd
def Crd.props : Crd → List (Hd × List Crd)
  | .mk l => l
abbrev big : Nat := 1048576
def HdOk (h : Hd) : Prop := h.g.length ≤ big ∧ h.n.length ≤ big ∧ h.v.length ≤ big ∧ h.ps.length ≤ big ∧ ∀ p ∈ h.ps, p.1.length ≤ big ∧ p.2.length ≤ big
/-- A property's value: its cards cs 'C' says. -/
def RepP (R : Nat → Obj → Prop) (C : Value → Crd → Prop) (x : Value) (p : Hd × List Crd) : Prop :=
  HdOk p.1 ∧ ∃ sp sa cs, x = propV p.1.g p.1.n sp p.1.v sa ∧ Sl R 2 sp (p.1.ps.map parV) ∧ Sl R 1 sa cs ∧ cs.length = p.2.length ∧ p.2.length ≤ big ∧ ∀ (i : Nat) x c, cs[i]? = some x → p.2[i]? = some c → C x c
/-- A card's value, down to d cards within one another. -/
def RepC (R : Nat → Obj → Prop) : Nat → Value → Crd → Prop
  | 0, v, _ => ∃ a l c, v = .agg #[.slice a l c]
  | d + 1, v, c => ∃ pv vs, v = .agg #[pv] ∧ Sl R 5 pv vs ∧ vs.length = c.props.length ∧ c.props.length ≤ big ∧ ∀ (i : Nat) x p, vs[i]? = some x → c.props[i]? = some p → RepP R (RepC R d) x p
theorem RepP.mono {R R' : Nat → Obj → Prop} {C C' : Value → Crd → Prop} {x : Value} {p : Hd × List Crd} (hR : ∀ b o, R b o → R' b o) (hC : ∀ v c, C v c → C' v c) (h : RepP R C x p) : RepP R' C' x p := by
  obtain ⟨h0, sp, sa, cs, h1, h2, h3, h4, h5, h6⟩ := h
  exact ⟨h0, sp, sa, cs, h1, h2.mono hR, h3.mono hR, h4, h5, fun i x c hx hc => hC _ _ (h6 i x c hx hc)⟩
theorem RepC.mono {R R' : Nat → Obj → Prop} (hR : ∀ b o, R b o → R' b o) : ∀ {d : Nat} {v : Value} {c : Crd}, RepC R d v c → RepC R' d v c
  | 0, _, _, h => h
  | d + 1, v, c, ⟨pv, vs, h1, h2, h3, h4, h5⟩ => ⟨pv, vs, h1, h2.mono hR, h3, h4, fun i x p hx hp => (h5 i x p hx hp).mono hR fun v c hc => RepC.mono hR hc⟩
theorem RepC.slice {R : Nat → Obj → Prop} : ∀ {d : Nat} {v : Value} {c : Crd}, RepC R d v c → ∃ a l k, v = .agg #[.slice a l k]
  | 0, _, _, h => h
  | d + 1, v, c, ⟨pv, vs, h1, h2, _⟩ => by
    obtain ⟨a, k, rfl, _⟩ := h2.shape
    exact ⟨a, _, k, h1⟩
/-- One card less deep. -/
theorem RepC.less {R : Nat → Obj → Prop} : ∀ {d : Nat} {v : Value} {c : Crd}, RepC R (d + 1) v c → RepC R d v c
  | 0, v, c, h => h.slice
  | d + 1, v, c, ⟨pv, vs, h1, h2, h3, h4, h5⟩ => ⟨pv, vs, h1, h2, h3, h4, fun i x p hx hp => (h5 i x p hx hp).mono (fun _ _ h => h) fun v c hc => RepC.less hc⟩

/-! How deep a card is (10.1), of so many at most. -/
def agF (f : Crd → Nat) (n : Nat) (cs : List Crd) : Nat := cs.foldl (fun n a => max n (1 + f a)) n
def prF (f : Crd → Nat) (n : Nat) (ps : List (Hd × List Crd)) : Nat := ps.foldl (fun n p => agF f n p.2) n
def deepF : Nat → Crd → Nat
  | 0, _ => 1
  | m + 1, c => prF (deepF m) 1 c.props
theorem foldl_succ {α β : Type} (g : β → α → β) (n : β) {l : List α} {k : Nat} (h : k < l.length) : (l.take (k + 1)).foldl g n = g ((l.take k).foldl g n) l[k] := by
  rw [List.take_succ_eq_append_getElem h, List.foldl_append]; rfl
theorem agF_le {f : Crd → Nat} {B : Nat} (hf : ∀ c, 1 + f c ≤ B) : ∀ (cs : List Crd) (n : Nat), n ≤ B → agF f n cs ≤ B
  | [], _, h => h
  | a :: cs, n, h => agF_le hf cs _ (Nat.max_le.2 ⟨h, hf a⟩)
theorem prF_le {f : Crd → Nat} {B : Nat} (hf : ∀ c, 1 + f c ≤ B) : ∀ (ps : List (Hd × List Crd)) (n : Nat), n ≤ B → prF f n ps ≤ B
  | [], _, h => h
  | p :: ps, n, h => prF_le hf ps _ (agF_le hf p.2 n h)
theorem deepF_le : ∀ (m : Nat) (c : Crd), deepF m c ≤ m + 1
  | 0, _ => Nat.le_refl _
  | m + 1, c => prF_le (fun c => by have := deepF_le m c; omega) _ _ (by omega)
theorem max_cast (a b : Nat) : Value.int .i64 (max (a : Int) (1 + (b : Int))) = Value.int .i64 ((max a (1 + b) : Nat) : Int) := by
  congr 1
  simp only [Nat.max_def, Int.max_def]
  split <;> split <;> omega
theorem Sl.one {R : Nat → Obj → Prop} {k : Nat} {v : Value} {xs : List Value} (h : Sl R k v xs) {i : Nat} {x : Value} (hi : xs[i]? = some x) : x.cells.size = k ∧ ∀ c ∈ x.cells.toList, c.oneCell' = true := by
  obtain ⟨_, _, _, _, h3, _⟩ := h
  exact h3 x (List.mem_of_getElem? hi)
theorem deep_pm : ∀ (m : Nat) {R : Nat → Obj → Prop} {v : Value} {c : Crd}, m ≤ 100 → RepC R m v c → Pm Tryd.prog 16 [v, .int .i64 ((m + 1 : Nat) : Int)] R (.int .i64 (deepF m c : Nat))
  | 0, R, v, c, _, hc => by
    obtain ⟨a, l, k, rfl⟩ := hc.slice
    refine Pm.of Tryd.func16 Tryd.ntmps16 rfl rfl fun m w hR => ?_
    refine WK.seq ?_
    refine WK.region ?_
    refine WL.box rfl rfl fun b2 => ?_
    refine WL.asC rfl ?_
    refine WL.nil ?_
    refine WK.seq ?_
    refine WK.region ?_
    refine WL.asC rfl ?_
    refine WL.nil ?_
    refine WK.seq ?_
    refine WK.seq ?_
    refine WK.region ?_
    refine WL.mvI rfl rfl ?_
    refine WL.eql rfl rfl rfl ?_
    refine WL.nil ?_
    refine WK.cond_t rfl ?_
    refine WK.seq ?_
    refine WK.region ?_
    refine WL.mvI rfl rfl ?_
    refine WL.asI rfl rfl ?_
    refine WL.nil ?_
    refine WK.ret ?_
    refine WK.ret_code ?_
    -- end
    refine WK.end1 rfl (show _ = .int _ _ from rfl) ?_
    rfl
  | d + 1, R, v, c, hd, hc => by
    have IH : ∀ {R : Nat → Obj → Prop} {v : Value} {c : Crd} {mi : Int}, mi = ((d + 1 : Nat) : Int) → RepC R d v c → Pm Tryd.prog 16 [v, .int .i64 mi] R (.int .i64 (deepF d c : Nat)) := fun h hc => h ▸ deep_pm d (by omega) hc
    obtain ⟨pv, vs, rfl, hs, hlen, hbig, hel⟩ := hc
    obtain ⟨a, k, hpv, _⟩ := hs.shape
    subst hpv
    refine Pm.of Tryd.func16 Tryd.ntmps16 rfl rfl fun m w hR => ?_
    have hs' : Sl (fun b o => m b = some o) 5 _ _ := hs.mono hR
    refine WK.seq ?_
    refine WK.region ?_
    refine WL.box rfl rfl fun b2 => ?_
    refine WL.asC rfl ?_
    refine WL.nil ?_
    refine WK.seq ?_
    refine WK.region ?_
    refine WL.asC rfl ?_
    refine WL.nil ?_
    refine WK.seq ?_
    refine WK.seq ?_
    refine WK.region ?_
    refine WL.mvI rfl rfl ?_
    refine WL.eql rfl rfl rfl ?_
    refine WL.nil ?_
    -- cond
    refine WK.cond rfl (fun h1 => ?_) (fun h1 => ?_)
    · exfalso; simp at h1; omega
    · skip
      refine WK.skip ?_
      refine WK.seq ?_
      refine WK.seq ?_
      refine WK.region ?_
      refine WL.fieldO rfl rfl ?_
      refine WL.load1O rfl rfl (by first | exact .here | exact .there .here | exact .there (.there .here) | exact .there (.there (.there .here)) | exact .there (.there (.there (.there .here))) | exact .there (.there (.there (.there (.there .here))))) (show _ = some (.slice _ _ _) from rfl) ?_
      refine WL.lenSl rfl rfl ?_
      refine WL.mvC rfl ?_
      refine WL.nil ?_
      refine WK.block ?_
      -- loop
      refine WK.loop (G := Nat × Nat) (fun g => [(16, .int .i64 (g.1 : Nat)), (5, .int .i64 (g.2 : Nat)), (15, .int .i64 (vs.length : Nat)), (14, .slice a vs.length k), (1, .int .i64 ((d + 1 + 1 : Nat) : Int)), (2, .pointer (some ⟨b2, 0, none⟩))]) (fun _ => m) (fun _ => [[(b2, .cells #[.slice a vs.length k] 24 (0, 0))]])
        (fun g => g.1 ≤ vs.length ∧ g.2 = prF (deepF d) 1 (c.props.take g.1)) (fun g => vs.length - g.1) (0, 1) ⟨by simp, by simp [prF]⟩ ⟨rfl, rfl, rfl, rfl, rfl, rfl, trivial⟩ rfl rfl ?_
      rintro ⟨i, n⟩ ρ ⟨hi, hn⟩
      replace hi : i ≤ vs.length := hi
      replace hn : n = prF (deepF d) 1 (c.props.take i) := hn
      have hn2 : n ≤ d + 2 := by rw [hn]; exact prF_le (fun c => by have := deepF_le d c; omega) _ _ (by omega)
      refine WK.seq ?_
      refine WK.region ?_
      refine WL.lss rfl rfl rfl ?_
      refine WL.nil ?_
      refine WK.seq ?_
      -- cond
      refine WK.cond rfl (fun h => ?_) (fun h => ?_)
      · have hlt : i < vs.length := by simpa using h
        have hlt2 : i < c.props.length := by omega
        have hv : vs[i]? = some vs[i] := by simp [hlt]
        obtain ⟨h0, sp, sa, cs, hx, hsp, hsa, hcl, hcb, hce⟩ := hel i vs[i] c.props[i] hv (by simp [hlt2])
        obtain ⟨a2, k2, hsav, _⟩ := hsa.shape
        subst hsav
        rw [hx] at hv
        have hfit := hs'.one hv
        have hsa' : Sl (fun b o => m b = some o) 1 _ _ := hsa.mono hR
        replace hcb : (c.props[i]).2.length ≤ 1048576 := hcb
        replace hbig : c.props.length ≤ 1048576 := hbig
        refine WK.skip ?_
        refine WK.seq ?_
        refine WK.block ?_
        refine WK.seq ?_
        refine WK.region ?_
        refine WL.indexE rfl rfl hs' rfl rfl hv fun p18 hp18 => ?_
        refine WL.loadA rfl rfl (hp18.rd (Le.refl _)) rfl ?_
        refine WL.alloc rfl fun b7 => ?_
        refine WL.storeAO rfl rfl rfl (by first | exact .here | exact .there .here | exact .there (.there .here) | exact .there (.there (.there .here)) | exact .there (.there (.there (.there .here))) | exact .there (.there (.there (.there (.there .here))))) (by rfl) (by rfl) hfit.2 ?_
        refine WL.nil ?_
        refine WK.seq ?_
        refine WK.region ?_
        refine WL.fieldO rfl rfl ?_
        refine WL.load1O rfl rfl (by first | exact .here | exact .there .here | exact .there (.there .here) | exact .there (.there (.there .here)) | exact .there (.there (.there (.there .here))) | exact .there (.there (.there (.there (.there .here))))) (show _ = some (.slice _ _ _) from rfl) ?_
        refine WL.lenSl rfl rfl ?_
        refine WL.mvC rfl ?_
        refine WL.nil ?_
        refine WK.block ?_
        -- loop
        refine WK.drop (.drop .refl) ?_
        refine WK.loop (G := Nat × Nat) (fun g => [(23, .int .i64 (g.1 : Nat)), (5, .int .i64 (g.2 : Nat)), (22, .int .i64 (cs.length : Nat)), (21, .slice a2 cs.length k2), (16, .int .i64 (i : Nat)), (15, .int .i64 (vs.length : Nat)), (14, .slice a vs.length k), (1, .int .i64 ((d + 1 + 1 : Nat) : Int)), (2, .pointer (some ⟨b2, 0, none⟩))]) (fun _ => m) (fun _ => [[(b2, .cells #[.slice a vs.length k] 24 (0, 0))]])
          (fun g => g.1 ≤ cs.length ∧ g.2 = agF (deepF d) n ((c.props[i]).2.take g.1)) (fun g => cs.length - g.1) (0, n) ⟨by simp, by simp [agF]⟩ ⟨rfl, rfl, rfl, rfl, rfl, rfl, rfl, rfl, rfl, trivial⟩ rfl rfl ?_
        rintro ⟨j, n2⟩ ρ ⟨hj, hn2'⟩
        replace hj : j ≤ cs.length := hj
        replace hn2' : n2 = agF (deepF d) n ((c.props[i]).2.take j) := hn2'
        have hn3 : n2 ≤ d + 2 := by rw [hn2']; exact agF_le (fun c => by have := deepF_le d c; omega) _ _ hn2
        refine WK.seq ?_
        refine WK.region ?_
        refine WL.lss rfl rfl rfl ?_
        refine WL.nil ?_
        refine WK.seq ?_
        -- cond
        refine WK.cond rfl (fun h3 => ?_) (fun h3 => ?_)
        · have hjt : j < cs.length := by simpa using h3
          have hjt2 : j < (c.props[i]).2.length := by omega
          have hcv : cs[j]? = some cs[j] := by simp [hjt]
          have hrep := hce j cs[j] (c.props[i]).2[j] hcv (by simp [hjt2])
          obtain ⟨a3, l3, k3, hsh⟩ := hrep.slice
          rw [hsh] at hcv hrep
          have hfit2 := hsa'.one hcv
          have hdl := deepF_le d (c.props[i]).2[j]
          refine WK.skip ?_
          refine WK.seq ?_
          refine WK.block ?_
          refine WK.seq ?_
          refine WK.region ?_
          refine WL.indexE rfl rfl hsa' rfl rfl hcv fun p25 hp25 => ?_
          refine WL.loadA rfl rfl (hp25.rd (Le.refl _)) rfl ?_
          refine WL.alloc rfl fun b9 => ?_
          refine WL.storeAO rfl rfl rfl (by first | exact .here | exact .there .here | exact .there (.there .here) | exact .there (.there (.there .here)) | exact .there (.there (.there (.there .here))) | exact .there (.there (.there (.there (.there .here))))) (by rfl) (by rfl) hfit2.2 ?_
          refine WL.nil ?_
          refine WK.region ?_
          refine WL.mvI rfl rfl ?_
          refine WL.loadAO rfl rfl (by first | exact .here | exact .there .here | exact .there (.there .here) | exact .there (.there (.there .here)) | exact .there (.there (.there (.there .here))) | exact .there (.there (.there (.there (.there .here))))) (by rfl) ?_
          refine WL.mvI rfl rfl ?_
          refine WL.sub rfl rfl rfl (by omega) ?_
          refine WL.callm (IH (by omega) (hrep.mono fun b o h => .inl (hR b o h))) rfl rfl rfl ?_
          refine WL.add rfl rfl rfl (by omega) ?_
          refine WL.max rfl rfl rfl ?_
          refine WL.asI rfl rfl ?_
          refine WL.nil ?_
          refine WK.blk ?_
          refine WK.region ?_
          refine WL.add rfl rfl rfl (by omega) ?_
          refine WL.mvI rfl rfl ?_
          refine WL.nil ?_
          -- again
          refine WK.drop (.drop .refl) ?_
          refine WK.again (j + 1, max n2 (1 + deepF d (c.props[i]).2[j])) ⟨by show j + 1 ≤ _; omega, ?_⟩ (by show cs.length - (j + 1) < cs.length - j; omega) ⟨rfl, max_cast _ _, rfl, rfl, rfl, rfl, rfl, rfl, rfl, trivial⟩ rfl rfl
          show max n2 _ = agF _ n (List.take (j + 1) _)
          rw [agF, foldl_succ _ _ hjt2, hn2']; rfl
        · skip
          have hjk : j = cs.length := by simp at h3; omega
          refine WK.exit ?_
          refine WK.exit_code ?_
          refine WK.exit_lp ?_
          refine WK.exit_hit ?_
          refine WK.blk ?_
          refine WK.region ?_
          refine WL.add rfl rfl rfl (by omega) ?_
          refine WL.mvI rfl rfl ?_
          refine WL.nil ?_
          -- again
          refine WK.again (i + 1, n2) ⟨by show i + 1 ≤ _; omega, ?_⟩ (by show vs.length - (i + 1) < vs.length - i; omega) ⟨rfl, rfl, rfl, rfl, rfl, rfl, trivial⟩ rfl rfl
          show n2 = prF _ 1 (List.take (i + 1) _)
          rw [prF, foldl_succ _ _ hlt2, hn2', hjk, hcl, List.take_length, hn]; rfl
      · skip
        have hk2 : i = vs.length := by simp at h; omega
        refine WK.exit ?_
        refine WK.exit_code ?_
        refine WK.exit_lp ?_
        refine WK.exit_hit ?_
        refine WK.seq ?_
        refine WK.region ?_
        refine WL.mvI rfl rfl ?_
        refine WL.asI rfl rfl ?_
        refine WL.nil ?_
        refine WK.ret ?_
        -- end
        refine WK.end1 rfl (show _ = .int _ _ from rfl) ?_
        rw [hn, hk2, hlen, List.take_length]; rfl
theorem rdeep_pm : ∀ (m : Nat) {R : Nat → Obj → Prop} {v : Value} {c : Crd}, m ≤ 100 → RepC R m v c → Pm Tryd.prog 17 [v, .int .i64 ((m + 1 : Nat) : Int)] R (.int .i64 (deepF m c : Nat))
  | 0, R, v, c, _, hc => by
    obtain ⟨a, l, k, rfl⟩ := hc.slice
    refine Pm.of Tryd.func17 Tryd.ntmps17 rfl rfl fun m w hR => ?_
    refine WK.seq ?_
    refine WK.region ?_
    refine WL.box rfl rfl fun b2 => ?_
    refine WL.asC rfl ?_
    refine WL.nil ?_
    refine WK.seq ?_
    refine WK.region ?_
    refine WL.asC rfl ?_
    refine WL.nil ?_
    refine WK.seq ?_
    refine WK.seq ?_
    refine WK.region ?_
    refine WL.asC rfl ?_
    refine WL.nil ?_
    refine WK.block ?_
    -- loop
    refine WK.loop (G := Unit) (fun _ => [(6, .int .i64 0), (5, .int .i64 1), (1, .int .i64 1), (2, .pointer (some ⟨b2, 0, none⟩))]) (fun _ => m) (fun _ => [[(b2, .cells #[.slice a l k] 24 (0, 0))]]) (fun _ => True) (fun _ => 0) () trivial ⟨rfl, rfl, rfl, rfl, trivial⟩ rfl rfl ?_
    rintro _ ρ _
    refine WK.seq ?_
    refine WK.seq ?_
    refine WK.mid (fun (_ : Unit) => [(16, .bool false), (5, .int .i64 1)]) (fun _ => m) (fun _ => [[(b2, .cells #[.slice a l k] 24 (0, 0))]]) (fun _ => True) ?_ ?_
    · skip
      refine WK.region ?_
      refine WL.mvI rfl rfl ?_
      refine WL.fieldO rfl rfl ?_
      refine WL.load1O rfl rfl (by first | exact .here | exact .there .here | exact .there (.there .here) | exact .there (.there (.there .here)) | exact .there (.there (.there (.there .here))) | exact .there (.there (.there (.there (.there .here))))) (show _ = some (.slice _ _ _) from rfl) ?_
      refine WL.lenSl rfl rfl ?_
      refine WL.lss rfl rfl rfl ?_
      refine WL.mvB rfl rfl ?_
      refine WL.guardSplit rfl rfl (fun h1 => ?_) (fun h1 => ?_)
      · skip
        refine WL.mvI rfl rfl ?_
        refine WL.guard rfl h1 ?_
        refine WL.gtr rfl rfl rfl ?_
        refine WL.pickT rfl rfl h1 rfl ?_
        refine WL.nil ?_
        exact WK.met () trivial ⟨rfl, rfl, trivial⟩ rfl rfl
      · skip
        refine WL.guardSkip rfl h1 rfl ?_
        refine WL.pickF rfl rfl h1 rfl ?_
        refine WL.nil ?_
        exact WK.met () trivial ⟨rfl, rfl, trivial⟩ rfl rfl
    rintro _ ρ _
    refine WK.cond_f rfl ?_
    refine WK.exit ?_
    refine WK.exit_code ?_
    refine WK.exit_lp ?_
    refine WK.exit_hit ?_
    refine WK.seq ?_
    refine WK.region ?_
    refine WL.mvI rfl rfl ?_
    refine WL.asI rfl rfl ?_
    refine WL.nil ?_
    refine WK.ret ?_
    -- end
    refine WK.end1 rfl (show _ = .int _ _ from rfl) ?_
    rfl
  | d + 1, R, v, c, hd, hc => by
    have IH : ∀ {R : Nat → Obj → Prop} {v : Value} {c : Crd} {mi : Int}, mi = ((d + 1 : Nat) : Int) → RepC R d v c → Pm Tryd.prog 17 [v, .int .i64 mi] R (.int .i64 (deepF d c : Nat)) := fun h hc => h ▸ rdeep_pm d (by omega) hc
    obtain ⟨pv, vs, rfl, hs, hlen, hbig, hel⟩ := hc
    obtain ⟨a, k, hpv, _⟩ := hs.shape
    subst hpv
    replace hbig : c.props.length ≤ 1048576 := hbig
    refine Pm.of Tryd.func17 Tryd.ntmps17 rfl rfl fun m w hR => ?_
    have hs' : Sl (fun b o => m b = some o) 5 _ _ := hs.mono hR
    refine WK.seq ?_
    refine WK.region ?_
    refine WL.box rfl rfl fun b2 => ?_
    refine WL.asC rfl ?_
    refine WL.nil ?_
    refine WK.seq ?_
    refine WK.region ?_
    refine WL.asC rfl ?_
    refine WL.nil ?_
    refine WK.seq ?_
    refine WK.seq ?_
    refine WK.region ?_
    refine WL.asC rfl ?_
    refine WL.nil ?_
    refine WK.block ?_
    -- loop
    refine WK.loop (G := Nat × Nat) (fun g => [(6, .int .i64 (g.1 : Nat)), (5, .int .i64 (g.2 : Nat)), (1, .int .i64 ((d + 1 + 1 : Nat) : Int)), (2, .pointer (some ⟨b2, 0, none⟩))]) (fun _ => m) (fun _ => [[(b2, .cells #[.slice a vs.length k] 24 (0, 0))]])
      (fun g => g.1 ≤ vs.length ∧ g.2 = prF (deepF d) 1 (c.props.take g.1)) (fun g => vs.length - g.1) (0, 1) ⟨by simp, by simp [prF]⟩ ⟨rfl, rfl, rfl, rfl, trivial⟩ rfl rfl ?_
    rintro ⟨i, n⟩ ρ ⟨hi, hn⟩
    replace hi : i ≤ vs.length := hi
    replace hn : n = prF (deepF d) 1 (c.props.take i) := hn
    have hn2 : n ≤ d + 2 := by rw [hn]; exact prF_le (fun c => by have := deepF_le d c; omega) _ _ (by omega)
    refine WK.seq ?_
    refine WK.seq ?_
    refine WK.mid (fun (_ : Unit) => [(16, .bool (decide ((i : Int) < vs.length))), (6, .int .i64 (i : Nat)), (5, .int .i64 (n : Nat)), (1, .int .i64 ((d + 1 + 1 : Nat) : Int)), (2, .pointer (some ⟨b2, 0, none⟩))]) (fun _ => m) (fun _ => [[(b2, .cells #[.slice a vs.length k] 24 (0, 0))]]) (fun _ => True) ?_ ?_
    · skip
      refine WK.region ?_
      refine WL.mvI rfl rfl ?_
      refine WL.fieldO rfl rfl ?_
      refine WL.load1O rfl rfl (by first | exact .here | exact .there .here | exact .there (.there .here) | exact .there (.there (.there .here)) | exact .there (.there (.there (.there .here))) | exact .there (.there (.there (.there (.there .here))))) (show _ = some (.slice _ _ _) from rfl) ?_
      refine WL.lenSl rfl rfl ?_
      refine WL.lss rfl rfl rfl ?_
      refine WL.mvB rfl rfl ?_
      refine WL.guardSplit rfl rfl (fun h1 => ?_) (fun h1 => ?_)
      · skip
        refine WL.mvI rfl rfl ?_
        refine WL.guard rfl h1 ?_
        refine WL.gtr rfl rfl rfl ?_
        refine WL.pickT rfl rfl h1 rfl ?_
        refine WL.nil ?_
        refine WK.met () trivial ⟨congrArg Value.bool ?_, rfl, rfl, rfl, rfl, trivial⟩ rfl rfl
        simp_all <;> omega
      · skip
        refine WL.guardSkip rfl h1 rfl ?_
        refine WL.pickF rfl rfl h1 rfl ?_
        refine WL.nil ?_
        refine WK.met () trivial ⟨congrArg Value.bool ?_, rfl, rfl, rfl, rfl, trivial⟩ rfl rfl
        simp_all <;> omega
    rintro _ ρ _
    -- cond
    refine WK.cond rfl (fun h => ?_) (fun h => ?_)
    · have hlt : i < vs.length := by simpa using h
      have hlt2 : i < c.props.length := by omega
      have hv : vs[i]? = some vs[i] := by simp [hlt]
      obtain ⟨h0, sp, sa, cs, hx, hsp, hsa, hcl, hcb, hce⟩ := hel i vs[i] c.props[i] hv (by simp [hlt2])
      obtain ⟨a2, k2, hsav, _⟩ := hsa.shape
      subst hsav
      rw [hx] at hv
      have hsa' : Sl (fun b o => m b = some o) 1 _ _ := hsa.mono hR
      replace hcb : (c.props[i]).2.length ≤ 1048576 := hcb
      refine WK.skip ?_
      refine WK.seq ?_
      refine WK.block ?_
      refine WK.seq ?_
      refine WK.region ?_
      refine WL.asC rfl ?_
      refine WL.nil ?_
      refine WK.block ?_
      -- loop
      refine WK.loop (G := Nat × Nat) (fun g => [(7, .int .i64 (g.1 : Nat)), (5, .int .i64 (g.2 : Nat)), (6, .int .i64 (i : Nat)), (1, .int .i64 ((d + 1 + 1 : Nat) : Int)), (2, .pointer (some ⟨b2, 0, none⟩))]) (fun _ => m) (fun _ => [[(b2, .cells #[.slice a vs.length k] 24 (0, 0))]])
        (fun g => g.1 ≤ cs.length ∧ g.2 = agF (deepF d) n ((c.props[i]).2.take g.1)) (fun g => cs.length - g.1) (0, n) ⟨by simp, by simp [agF]⟩ ⟨rfl, rfl, rfl, rfl, rfl, trivial⟩ rfl rfl ?_
      rintro ⟨j, n2⟩ ρ ⟨hj, hn2'⟩
      replace hj : j ≤ cs.length := hj
      replace hn2' : n2 = agF (deepF d) n ((c.props[i]).2.take j) := hn2'
      have hn3 : n2 ≤ d + 2 := by rw [hn2']; exact agF_le (fun c => by have := deepF_le d c; omega) _ _ hn2
      refine WK.seq ?_
      refine WK.seq ?_
      refine WK.region ?_
      refine WL.mvI rfl rfl ?_
      refine WL.fieldO rfl rfl ?_
      refine WL.load1O rfl rfl (by first | exact .here | exact .there .here | exact .there (.there .here) | exact .there (.there (.there .here)) | exact .there (.there (.there (.there .here))) | exact .there (.there (.there (.there (.there .here))))) (show _ = some (.slice _ _ _) from rfl) ?_
      refine WL.mvI rfl rfl ?_
      refine WL.indexE rfl rfl hs' rfl rfl hv fun p23 hp23 => ?_
      refine WL.fieldE rfl rfl hp23 fun q24 hq24 => ?_
      refine WL.load1 rfl rfl (hq24.rd (Le.refl _)) ?_
      refine WL.lenSl rfl rfl ?_
      refine WL.lss rfl rfl rfl ?_
      refine WL.nil ?_
      -- cond
      refine WK.cond rfl (fun h3 => ?_) (fun h3 => ?_)
      · have hjt : j < cs.length := by simpa using h3
        have hjt2 : j < (c.props[i]).2.length := by omega
        have hcv : cs[j]? = some cs[j] := by simp [hjt]
        have hrep := hce j cs[j] (c.props[i]).2[j] hcv (by simp [hjt2])
        obtain ⟨a3, l3, k3, hsh⟩ := hrep.slice
        rw [hsh] at hcv hrep
        have hdl := deepF_le d (c.props[i]).2[j]
        refine WK.skip ?_
        refine WK.seq ?_
        refine WK.block ?_
        refine WK.region ?_
        refine WL.mvI rfl rfl ?_
        refine WL.fieldO rfl rfl ?_
        refine WL.load1O rfl rfl (by first | exact .here | exact .there .here | exact .there (.there .here) | exact .there (.there (.there .here)) | exact .there (.there (.there (.there .here))) | exact .there (.there (.there (.there (.there .here))))) (show _ = some (.slice _ _ _) from rfl) ?_
        refine WL.mvI rfl rfl ?_
        refine WL.indexE rfl rfl hs' rfl rfl hv fun p34 hp34 => ?_
        refine WL.fieldE rfl rfl hp34 fun q35 hq35 => ?_
        refine WL.load1 rfl rfl (hq35.rd (Le.refl _)) ?_
        refine WL.mvI rfl rfl ?_
        refine WL.indexE rfl rfl hsa' rfl rfl hcv fun p38 hp38 => ?_
        refine WL.loadA rfl rfl (hp38.rd (Le.refl _)) rfl ?_
        refine WL.mvI rfl rfl ?_
        refine WL.sub rfl rfl rfl (by omega) ?_
        refine WL.callm (IH (by omega) (hrep.mono fun b o h => .inl (hR b o h))) rfl rfl rfl ?_
        refine WL.add rfl rfl rfl (by omega) ?_
        refine WL.max rfl rfl rfl ?_
        refine WL.asI rfl rfl ?_
        refine WL.nil ?_
        refine WK.blk ?_
        refine WK.region ?_
        refine WL.mvI rfl rfl ?_
        refine WL.add rfl rfl rfl (by omega) ?_
        refine WL.asI rfl rfl ?_
        refine WL.nil ?_
        -- again
        refine WK.again (j + 1, max n2 (1 + deepF d (c.props[i]).2[j])) ⟨by show j + 1 ≤ _; omega, ?_⟩ (by show cs.length - (j + 1) < cs.length - j; omega) ⟨rfl, max_cast _ _, rfl, rfl, rfl, trivial⟩ rfl rfl
        show max n2 _ = agF _ n (List.take (j + 1) _)
        rw [agF, foldl_succ _ _ hjt2, hn2']; rfl
      · skip
        have hjk : j = cs.length := by simp at h3; omega
        refine WK.exit ?_
        refine WK.exit_code ?_
        refine WK.exit_lp ?_
        refine WK.exit_hit ?_
        refine WK.blk ?_
        refine WK.region ?_
        refine WL.mvI rfl rfl ?_
        refine WL.add rfl rfl rfl (by omega) ?_
        refine WL.asI rfl rfl ?_
        refine WL.nil ?_
        -- again
        refine WK.again (i + 1, n2) ⟨by show i + 1 ≤ _; omega, ?_⟩ (by show vs.length - (i + 1) < vs.length - i; omega) ⟨rfl, rfl, rfl, rfl, trivial⟩ rfl rfl
        show n2 = prF _ 1 (List.take (i + 1) _)
        rw [prF, foldl_succ _ _ hlt2, hn2', hjk, hcl, List.take_length, hn]; rfl
    · skip
      have hk2 : i = vs.length := by simp at h; omega
      refine WK.exit ?_
      refine WK.exit_code ?_
      refine WK.exit_lp ?_
      refine WK.exit_hit ?_
      refine WK.seq ?_
      refine WK.region ?_
      refine WL.mvI rfl rfl ?_
      refine WL.asI rfl rfl ?_
      refine WL.nil ?_
      refine WK.ret ?_
      -- end
      refine WK.end1 rfl (show _ = .int _ _ from rfl) ?_
      rw [hn, hk2, hlen, List.take_length]; rfl
theorem Deep_pm {R : Nat → Obj → Prop} {v : Value} {c : Crd} (hc : RepC R 8 v c) : Pm Tryd.prog 8 [v] R (.int .i64 (deepF 8 c : Nat)) := by
  obtain ⟨a, l, k, rfl⟩ := hc.slice
  refine Pm.of Tryd.func8 Tryd.ntmps8 rfl rfl fun m w hR => ?_
  refine WK.seq ?_
  refine WK.region ?_
  refine WL.box rfl rfl fun b1 => ?_
  refine WL.asC rfl ?_
  refine WL.nil ?_
  refine WK.seq ?_
  refine WK.region ?_
  refine WL.loadAO rfl rfl (by first | exact .here | exact .there .here | exact .there (.there .here) | exact .there (.there (.there .here)) | exact .there (.there (.there (.there .here))) | exact .there (.there (.there (.there (.there .here))))) (by rfl) ?_
  refine WL.callm (deep_pm 8 (by omega) (hc.mono fun b o h => .inl (hR b o h))) rfl rfl rfl ?_
  refine WL.asI rfl rfl ?_
  refine WL.nil ?_
  refine WK.ret ?_
  -- end
  refine WK.end1 rfl (show _ = .int _ _ from rfl) ?_
  rfl
theorem rDeep_pm {R : Nat → Obj → Prop} {v : Value} {c : Crd} (hc : RepC R 8 v c) : Pm Tryd.prog 9 [v] R (.int .i64 (deepF 8 c : Nat)) := by
  obtain ⟨a, l, k, rfl⟩ := hc.slice
  refine Pm.of Tryd.func9 Tryd.ntmps9 rfl rfl fun m w hR => ?_
  refine WK.seq ?_
  refine WK.region ?_
  refine WL.box rfl rfl fun b1 => ?_
  refine WL.asC rfl ?_
  refine WL.nil ?_
  refine WK.seq ?_
  refine WK.region ?_
  refine WL.loadAO rfl rfl (by first | exact .here | exact .there .here | exact .there (.there .here) | exact .there (.there (.there .here)) | exact .there (.there (.there (.there .here))) | exact .there (.there (.there (.there (.there .here))))) (by rfl) ?_
  refine WL.callm (rdeep_pm 8 (by omega) (hc.mono fun b o h => .inl (hR b o h))) rfl rfl rfl ?_
  refine WL.asI rfl rfl ?_
  refine WL.nil ?_
  refine WK.ret ?_
  -- end
  refine WK.end1 rfl (show _ = .int _ _ from rfl) ?_
  rfl
end Go.SL
