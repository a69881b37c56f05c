/- A card that comes in, read as data. -/
import Derived.Test.YtbigjpjmdkgjmaaDoorPrn
import Derived.Test.YtbigjpjmdkgjmaaDoorRead
import Derived.Test.YtbigjpjmdkgjmaaDoorRows
namespace Go.SL
open Go Go.Proofs
set_option linter.unusedVariables false
set_option linter.unusedSimpArgs false
abbrev bulk {H : Type} (d : DataW H) : Nat := Go.Proofs.YtbigjpjmdkgjmaaDoor.Rows.uptoBulk d
abbrev bulks {H : Type} (l : List (DataW H)) : Nat := Go.Proofs.YtbigjpjmdkgjmaaDoor.Rows.uptoBulkAll l
theorem bulk_pos {H : Type} (d : DataW H) : 1 ≤ bulk d := by
  cases d with
  | lit l => cases l <;> simp [bulk, Go.Proofs.YtbigjpjmdkgjmaaDoor.Rows.uptoBulk]
  | nil => simp [bulk, Go.Proofs.YtbigjpjmdkgjmaaDoor.Rows.uptoBulk]
  | ptr d => simp [bulk, Go.Proofs.YtbigjpjmdkgjmaaDoor.Rows.uptoBulk]
  | slice elems spare => simp [bulk, Go.Proofs.YtbigjpjmdkgjmaaDoor.Rows.uptoBulk]
  | agg parts => simp [bulk, Go.Proofs.YtbigjpjmdkgjmaaDoor.Rows.uptoBulk]
  | iface t d => simp [bulk, Go.Proofs.YtbigjpjmdkgjmaaDoor.Rows.uptoBulk]
  | map entries => simp [bulk, Go.Proofs.YtbigjpjmdkgjmaaDoor.Rows.uptoBulk]
  | held h => simp [bulk, Go.Proofs.YtbigjpjmdkgjmaaDoor.Rows.uptoBulk]
theorem bulk_part {H : Type} {d : DataW H} : ∀ {l : List (DataW H)}, d ∈ l → bulk d ≤ bulks l
  | x :: r, h => by
    simp only [bulks, Go.Proofs.YtbigjpjmdkgjmaaDoor.Rows.uptoBulkAll]
    rcases List.mem_cons.1 h with rfl | h
    · show bulk _ ≤ bulk _ + bulks r; omega
    · have := bulk_part h; show _ ≤ bulk x + bulks r; omega
theorem bulk_len {H : Type} : ∀ (l : List (DataW H)), l.length ≤ bulks l
  | [] => Nat.zero_le _
  | x :: r => by
    have h1 := bulk_pos x
    have h2 := bulk_len r
    show r.length + 1 ≤ bulk x + bulks r
    omega
theorem bulk_agg {H : Type} {d : DataW H} {l : List (DataW H)} (h : d ∈ l) : bulk d ≤ bulk (.agg l) := by
  have := bulk_part h
  show _ ≤ bulks l + 1; omega
theorem bulk_slice {H : Type} (l r : List (DataW H)) : bulks l ≤ bulk (.slice l r) := by
  show _ ≤ bulks l + bulks r + 1; omega
theorem bulk_string {H : Type} (l : List UInt8) : l.length ≤ bulk (DataW.lit (H := H) (.string l)) := by
  simp [bulk, Go.Proofs.YtbigjpjmdkgjmaaDoor.Rows.uptoBulk]

section
variable {H : Type} {enc : TypeId × Value → H} {w : World} {base : Nat} {spare : Nat → Bool} {held : Bool} {fuel : Nat} {cs : List Value} {x : DataW H × List MemPlace}
abbrev hp (w : World) : Nat → Obj → Prop := fun b o => w.heap[b]? = some o
theorem text_of (h : DataW.trod enc Tryd.prog w base spare held fuel 9 cs = some x) : ∃ l, cs = [str l] ∧ l.length ≤ bulk x.1 := by
  obtain ⟨s, rfl, rfl, _⟩ := DataW.trod_string Tryd.underlying9 h
  exact ⟨s.data.toList, by rw [str_of], bulk_string _⟩
theorem len1 {α : Type} {l : List α} (h : l.length = 1) : ∃ a, l = [a] := by
  match l, h with
  | [a], _ => exact ⟨a, rfl⟩
theorem len2 {α : Type} {l : List α} (h : l.length = 2) : ∃ a b, l = [a, b] := by
  match l, h with
  | [a, b], _ => exact ⟨a, b, rfl⟩
theorem len5 {α : Type} {l : List α} (h : l.length = 5) : ∃ a b c d e, l = [a, b, c, d, e] := by
  match l, h with
  | [a, b, c, d, e], _ => exact ⟨a, b, c, d, e, rfl⟩
theorem fld_at {P : Program} {fs : Array Field} {n : Nat} {xs : List (DataW H × List MemPlace)} {cs : List Value} {f : Field}
    (hall : ∀ (i : Nat) (f : Field), fs[i]? = some f → DataW.trod enc P w base spare held n f.type ((cs.drop f.offset).take (P.cellsOf f.type)) = xs[i]?) (i T o k : Nat) (hf : fs[i]? = some f) (hT : f.type = T) (ho : f.offset = o) (hc : P.cellsOf T = k)
    {r : List Value} {y : DataW H × List MemPlace} (hr : (cs.drop o).take k = r) (hy : xs[i]? = some y) : DataW.trod enc P w base spare held n T r = some y := by
  subst hT; subst ho; subst hc; subst hr
  rw [hall i f hf, hy]
theorem cStr : Tryd.prog.cellsOf 9 = 1 := by kernel_rfl
theorem cPar : Tryd.prog.cellsOf 58 = 2 := by kernel_rfl
theorem cProp : Tryd.prog.cellsOf 42 = 5 := by kernel_rfl
theorem cCard : Tryd.prog.cellsOf 24 = 1 := by kernel_rfl
theorem cPars : Tryd.prog.cellsOf 39 = 1 := by kernel_rfl
theorem cProps : Tryd.prog.cellsOf 22 = 1 := by kernel_rfl
theorem cCards : Tryd.prog.cellsOf 40 = 1 := by kernel_rfl
theorem par_of (h : DataW.trod enc Tryd.prog w base spare held fuel 58 cs = some x) (hb : bulk x.1 ≤ big) : ∃ p : Par, cs = [str p.1, str p.2] ∧ p.1.length ≤ big ∧ p.2.length ≤ big := by
  obtain ⟨xs, n, rfl, hx, hl, hxl, hall⟩ := DataW.trod_struct Tryd.underlying58 h
  rw [cPar] at hl
  obtain ⟨c0, c1, rfl⟩ := len2 hl
  obtain ⟨x0, x1, rfl⟩ := len2 hxl
  have h0 := fld_at hall 0 9 0 1 rfl rfl rfl cStr (r := [c0]) rfl rfl
  have h1 := fld_at hall 1 9 1 1 rfl rfl rfl cStr (r := [c1]) rfl rfl
  obtain ⟨a, ha, hal⟩ := text_of h0
  obtain ⟨b, hb', hbl⟩ := text_of h1
  have e1 : bulk x0.1 ≤ bulk x.1 := by rw [hx]; exact bulk_agg (by simp)
  have e2 : bulk x1.1 ≤ bulk x.1 := by rw [hx]; exact bulk_agg (by simp)
  simp only [List.cons.injEq, and_true] at ha hb'
  exact ⟨(a, b), by rw [ha, hb'], Nat.le_trans hal (Nat.le_trans e1 hb), Nat.le_trans hbl (Nat.le_trans e2 hb)⟩
theorem pars_of (h : DataW.trod enc Tryd.prog w base spare held fuel 39 cs = some x) (hb : bulk x.1 ≤ big) : ∃ (v : Value) (ps : List Par), cs = [v] ∧ Sl (hp w) 2 v (ps.map parV) ∧ ps.length ≤ big ∧ ∀ p ∈ ps, p.1.length ≤ big ∧ p.2.length ≤ big := by
  obtain ⟨v, css, ys, h1, h2, h3, h4, h5⟩ := Sl.of_trod Tryd.underlying39 cPar (by decide) (fun cs => .agg cs.toArray) (by
    intro n cs y hn hy hlen
    refine ⟨rfl, ?_⟩
    obtain ⟨xs, m, rfl, hx, hl, hxl, hall⟩ := DataW.trod_struct Tryd.underlying58 hy
    obtain ⟨c0, c1, rfl⟩ := len2 hlen
    obtain ⟨x0, x1, rfl⟩ := len2 hxl
    have h0 := fld_at hall 0 9 0 1 rfl rfl rfl cStr (r := [c0]) rfl rfl
    have h1 := fld_at hall 1 9 1 1 rfl rfl rfl cStr (r := [c1]) rfl rfl
    obtain ⟨a, ha, _⟩ := text_of h0
    obtain ⟨b, hb', _⟩ := text_of h1
    simp only [List.cons.injEq, and_true] at ha hb'
    subst ha; subst hb'
    intro c hc
    simp only [List.mem_cons, List.mem_nil_iff, or_false] at hc
    rcases hc with rfl | rfl <;> rfl) h
  have hyb : ∀ y ∈ ys, bulk y.1 ≤ big := by
    intro y hy
    rcases h5 with ⟨e, _⟩ | ⟨rest, e⟩
    · rw [e] at h3; rw [List.eq_nil_of_length_eq_zero h3] at hy; cases hy
    · have h6 := bulk_part (d := y.1) (l := ys.map (·.1)) (List.mem_map.2 ⟨y, hy, rfl⟩)
      have h7 := bulk_slice (ys.map (·.1)) rest
      rw [e] at hb; omega
  have hlb : css.length ≤ big := by
    rcases h5 with ⟨e, _⟩ | ⟨rest, e⟩
    · rw [e]; exact Nat.zero_le _
    · have h6 := bulk_len (ys.map (·.1))
      have h7 := bulk_slice (ys.map (·.1)) rest
      rw [e] at hb; rw [List.length_map] at h6; omega
  obtain ⟨ps, q1, q2⟩ := lists_of (Q := fun (c : List Value) (p : Par) => c = [str p.1, str p.2] ∧ p.1.length ≤ big ∧ p.2.length ≤ big) css (by
    intro c hc
    obtain ⟨i, hi⟩ := List.mem_iff_getElem?.1 hc
    obtain ⟨y, n, hy, _, ht⟩ := h4 i c hi
    exact par_of ht (hyb y (List.mem_of_getElem? hy)))
  have e : css.map (fun cs => Value.agg cs.toArray) = ps.map parV := by
    apply List.ext_getElem?
    intro i
    rw [List.getElem?_map, List.getElem?_map]
    by_cases hi : i < css.length
    · rw [List.getElem?_eq_getElem hi, List.getElem?_eq_getElem (by omega : i < ps.length)]
      have := (q2 i css[i] ps[i] (by simp [hi]) (by simp [show i < ps.length by omega])).1
      simp only [Option.map_some, this, parV]
    · rw [List.getElem?_eq_none (by omega), List.getElem?_eq_none (by omega)]; rfl
  rw [e] at h2
  refine ⟨v, ps, h1, h2, by omega, fun p hp => ?_⟩
  obtain ⟨i, hi⟩ := List.mem_iff_getElem?.1 hp
  have hi' : i < css.length := by
    have := (List.getElem?_eq_some_iff.1 hi).1; omega
  exact (q2 i css[i] p (by simp [hi']) hi).2
theorem slice_bulk {ys : List (DataW H × List MemPlace)} {css : List (List Value)} {d : DataW H} (h3 : ys.length = css.length) (h5 : (css = [] ∧ d = .nil) ∨ ∃ rest, d = .slice (ys.map (·.1)) rest) (hb : bulk d ≤ big) :
    (∀ y ∈ ys, bulk y.1 ≤ big) ∧ css.length ≤ big := by
  rcases h5 with ⟨e, _⟩ | ⟨rest, e⟩
  · subst e
    rw [List.length_nil] at h3
    rw [List.eq_nil_of_length_eq_zero h3]
    exact ⟨fun y hy => (by cases hy), Nat.zero_le _⟩
  · have h7 := bulk_slice (ys.map (·.1)) rest
    rw [e] at hb
    refine ⟨fun y hy => ?_, ?_⟩
    · have h6 := bulk_part (d := y.1) (l := ys.map (·.1)) (List.mem_map.2 ⟨y, hy, rfl⟩)
      omega
    · have h6 := bulk_len (ys.map (·.1))
      rw [List.length_map] at h6; omega
theorem card_of : ∀ (fuel : Nat) {cs : List Value} {x : DataW H × List MemPlace}, DataW.trod enc Tryd.prog w base spare held fuel 24 cs = some x → bulk x.1 ≤ big →
    ∃ c : Crd, cs.length = 1 ∧ (∀ c ∈ cs, c.oneCell' = true) ∧ ∀ d, RepC (hp w) d (.agg cs.toArray) c := by
  intro fuel
  induction fuel using Nat.strongRecOn with
  | _ fuel IH =>
  -- a slice of cards, with less fuel
  have cards : ∀ (m : Nat), m < fuel → ∀ {cs : List Value} {x : DataW H × List MemPlace}, DataW.trod enc Tryd.prog w base spare held m 40 cs = some x → bulk x.1 ≤ big →
      ∃ (v : Value) (vs : List Value) (l : List Crd), cs = [v] ∧ Sl (hp w) 1 v vs ∧ vs.length = l.length ∧ l.length ≤ big ∧ ∀ d (i : Nat) x c, vs[i]? = some x → l[i]? = some c → RepC (hp w) d x c := by
    intro m hm cs x h hb
    -- the cells of each card are read first (their sizes), then the cards themselves
    obtain ⟨v, css, ys, h1, h2, h3, h4, h5⟩ := Sl.of_trod Tryd.underlying40 cCard (by decide) (fun cs => .agg cs.toArray) (by
      intro n cs y hn hy hlen
      refine ⟨rfl, ?_⟩
      obtain ⟨xs, q, rfl, hx, hl, hxl, hall⟩ := DataW.trod_struct Tryd.underlying24 hy
      obtain ⟨c0, rfl⟩ := len1 hlen
      obtain ⟨x0, rfl⟩ := len1 hxl
      have h0 := fld_at hall 0 22 0 1 rfl rfl rfl cProps (r := [c0]) rfl rfl
      rcases DataW.trod_slice Tryd.underlying22 h0 with ⟨e, _⟩ | ⟨a, len, cap, _, _, _, _, e, _⟩
      · simp only [List.cons.injEq, and_true] at e; subst e; intro c hc; obtain rfl := List.mem_singleton.1 hc; rfl
      · simp only [List.cons.injEq, and_true] at e; subst e; intro c hc; obtain rfl := List.mem_singleton.1 hc; rfl) h
    obtain ⟨hyb, hlb⟩ := slice_bulk h3 h5 hb
    obtain ⟨l, q1, q2⟩ := lists_of (Q := fun (cs : List Value) (c : Crd) => ∀ d, RepC (hp w) d (.agg cs.toArray) c) css (by
      intro c hc
      obtain ⟨i, hi⟩ := List.mem_iff_getElem?.1 hc
      obtain ⟨y, n, hy, hn, ht⟩ := h4 i c hi
      obtain ⟨c', _, _, hc'⟩ := IH n (by omega) ht (hyb y (List.mem_of_getElem? hy))
      exact ⟨c', hc'⟩)
    refine ⟨v, _, l, h1, h2, by rw [List.length_map, q1], by omega, fun d i x c hx hc => ?_⟩
    rw [List.getElem?_map] at hx
    obtain ⟨cs', hcs, rfl⟩ := Option.map_eq_some_iff.1 hx
    exact q2 i cs' c hcs hc d
  have prop : ∀ (m : Nat), m ≤ fuel → ∀ {cs : List Value} {x : DataW H × List MemPlace}, DataW.trod enc Tryd.prog w base spare held m 42 cs = some x → bulk x.1 ≤ big →
      ∃ p : Hd × List Crd, ∀ d, RepP (hp w) (RepC (hp w) d) (.agg cs.toArray) p := by
    intro m hm cs x h hb
    obtain ⟨xs, q, rfl, hx, hl, hxl, hall⟩ := DataW.trod_struct Tryd.underlying42 h
    rw [cProp] at hl
    obtain ⟨c0, c1, c2, c3, c4, rfl⟩ := len5 hl
    obtain ⟨x0, x1, x2, x3, x4, rfl⟩ := len5 hxl
    have h0 := fld_at hall 0 9 0 1 rfl rfl rfl cStr (r := [c0]) rfl rfl
    have h1 := fld_at hall 1 9 1 1 rfl rfl rfl cStr (r := [c1]) rfl rfl
    have h2 := fld_at hall 2 39 2 1 rfl rfl rfl cPars (r := [c2]) rfl rfl
    have h3 := fld_at hall 3 9 3 1 rfl rfl rfl cStr (r := [c3]) rfl rfl
    have h4 := fld_at hall 4 40 4 1 rfl rfl rfl cCards (r := [c4]) rfl rfl
    have hbx : ∀ y ∈ [x0, x1, x2, x3, x4], bulk y.1 ≤ big := fun y hy => by
      rw [hx] at hb
      exact Nat.le_trans (bulk_agg (List.mem_map.2 ⟨y, hy, rfl⟩)) hb
    obtain ⟨g, hg, hgl⟩ := text_of h0
    obtain ⟨n, hn, hnl⟩ := text_of h1
    obtain ⟨sp, ps, hsp, hps1, hps2, hps3⟩ := pars_of h2 (hbx x2 (by simp))
    obtain ⟨v, hv, hvl⟩ := text_of h3
    obtain ⟨sa, vs, l, hsa, ha1, ha2, ha3, ha4⟩ := cards q (by omega) h4 (hbx x4 (by simp))
    simp only [List.cons.injEq, and_true] at hg hn hsp hv hsa
    subst hg; subst hn; subst hsp; subst hv; subst hsa
    exact ⟨(⟨g, n, ps, v⟩, l), fun d => ⟨⟨Nat.le_trans hgl (hbx x0 (by simp)), Nat.le_trans hnl (hbx x1 (by simp)), Nat.le_trans hvl (hbx x3 (by simp)), hps2, hps3⟩, c2, c4, vs, rfl, hps1, ha1, ha2, ha3, fun i x c hx hc => ha4 d i x c hx hc⟩⟩
  intro cs x h hb
  obtain ⟨xs, q, rfl, hx, hl, hxl, hall⟩ := DataW.trod_struct Tryd.underlying24 h
  rw [cCard] at hl
  obtain ⟨c0, rfl⟩ := len1 hl
  obtain ⟨x0, rfl⟩ := len1 hxl
  have h0 := fld_at hall 0 22 0 1 rfl rfl rfl cProps (r := [c0]) rfl rfl
  have hb0 : bulk x0.1 ≤ big := by
    rw [hx] at hb
    exact Nat.le_trans (bulk_agg (List.mem_map.2 ⟨x0, by simp, rfl⟩)) hb
  obtain ⟨v, css, ys, h1, h2, h3, h4, h5⟩ := Sl.of_trod Tryd.underlying22 cProp (by decide) (fun cs => .agg cs.toArray) (by
    intro n cs y hn hy hlen
    refine ⟨rfl, ?_⟩
    obtain ⟨xs, m, rfl, hx, hl, hxl, hall⟩ := DataW.trod_struct Tryd.underlying42 hy
    obtain ⟨c0, c1, c2, c3, c4, rfl⟩ := len5 hlen
    obtain ⟨x0, x1, x2, x3, x4, rfl⟩ := len5 hxl
    have h0 := fld_at hall 0 9 0 1 rfl rfl rfl cStr (r := [c0]) rfl rfl
    have h1 := fld_at hall 1 9 1 1 rfl rfl rfl cStr (r := [c1]) rfl rfl
    have h2 := fld_at hall 2 39 2 1 rfl rfl rfl cPars (r := [c2]) rfl rfl
    have h3 := fld_at hall 3 9 3 1 rfl rfl rfl cStr (r := [c3]) rfl rfl
    have h4 := fld_at hall 4 40 4 1 rfl rfl rfl cCards (r := [c4]) rfl rfl
    obtain ⟨g, hg, _⟩ := text_of h0
    obtain ⟨n, hn, _⟩ := text_of h1
    obtain ⟨v, hv, _⟩ := text_of h3
    simp only [List.cons.injEq, and_true] at hg hn hv
    subst hg; subst hn; subst hv
    have o2 : c2.oneCell' = true := by
      rcases DataW.trod_slice Tryd.underlying39 h2 with ⟨e, _⟩ | ⟨a, len, cap, _, _, _, _, e, _⟩
      · simp only [List.cons.injEq, and_true] at e; subst e; rfl
      · simp only [List.cons.injEq, and_true] at e; subst e; rfl
    have o4 : c4.oneCell' = true := by
      rcases DataW.trod_slice Tryd.underlying40 h4 with ⟨e, _⟩ | ⟨a, len, cap, _, _, _, _, e, _⟩
      · simp only [List.cons.injEq, and_true] at e; subst e; rfl
      · simp only [List.cons.injEq, and_true] at e; subst e; rfl
    intro c hc
    simp only [List.mem_cons, List.mem_nil_iff, or_false] at hc
    rcases hc with rfl | rfl | rfl | rfl | rfl
    · rfl
    · rfl
    · exact o2
    · rfl
    · exact o4) h0
  obtain ⟨hyb, hlb⟩ := slice_bulk h3 h5 hb0
  obtain ⟨l, q1, q2⟩ := lists_of (Q := fun (cs : List Value) (p : Hd × List Crd) => ∀ d, RepP (hp w) (RepC (hp w) d) (.agg cs.toArray) p) css (by
    intro c hc
    obtain ⟨i, hi⟩ := List.mem_iff_getElem?.1 hc
    obtain ⟨y, n, hy, hn, ht⟩ := h4 i c hi
    exact prop n (by omega) ht (hyb y (List.mem_of_getElem? hy)))
  simp only [List.cons.injEq, and_true] at h1
  subst h1
  obtain ⟨a, k, hsh, _⟩ := h2.shape
  refine ⟨.mk l, rfl, ?_, fun d => ?_⟩
  · intro c hc
    obtain rfl := List.mem_singleton.1 hc
    rw [hsh]; rfl
  · cases d with
    | zero => exact ⟨a, _, k, by rw [hsh]⟩
    | succ d =>
      refine ⟨c0, _, rfl, h2, by rw [List.length_map]; exact q1.symm, by show l.length ≤ big; omega, fun i x p hx hp => ?_⟩
      rw [List.getElem?_map] at hx
      obtain ⟨cs', hcs, rfl⟩ := Option.map_eq_some_iff.1 hx
      exact q2 i cs' p hcs hp d
end
end Go.SL
