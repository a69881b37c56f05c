/- Plain laws on cards. -/
import Derived.Test.YtbigjpjmdkgjmaaDoorRchk
namespace Go.SL
theorem agF_ge {f : Crd → Nat} : ∀ (cs : List Crd) (n : Nat), n ≤ agF f n cs ∧ ∀ a ∈ cs, 1 + f a ≤ agF f n cs
  | [], n => ⟨Nat.le_refl _, by simp⟩
  | c :: cs, n => by
    have h := agF_ge (f := f) cs (max n (1 + f c))
    have e : agF f n (c :: cs) = agF f (max n (1 + f c)) cs := rfl
    rw [e]
    refine ⟨Nat.le_trans (Nat.le_max_left _ _) h.1, fun a ha => ?_⟩
    rcases List.mem_cons.1 ha with rfl | ha
    · exact Nat.le_trans (Nat.le_max_right _ _) h.1
    · exact h.2 a ha
theorem prF_ge {f : Crd → Nat} : ∀ (ps : List (Hd × List Crd)) (n : Nat), n ≤ prF f n ps ∧ ∀ p ∈ ps, ∀ a ∈ p.2, 1 + f a ≤ prF f n ps
  | [], n => ⟨Nat.le_refl _, by simp⟩
  | p :: ps, n => by
    have h := prF_ge (f := f) ps (agF f n p.2)
    have g := agF_ge (f := f) p.2 n
    have e : prF f n (p :: ps) = prF f (agF f n p.2) ps := rfl
    rw [e]
    refine ⟨Nat.le_trans g.1 h.1, fun q hq a ha => ?_⟩
    rcases List.mem_cons.1 hq with rfl | hq
    · exact Nat.le_trans (g.2 a ha) h.1
    · exact h.2 q hq a ha
theorem deepest_of : ∀ (k m : Nat) (c : Crd), k ≤ m → deepF m c ≤ k → Deepest k c
  | 0, m, c, _, h => by
    have : 1 ≤ deepF m c := by cases m with | zero => exact Nat.le_refl _ | succ m => exact (prF_ge _ 1).1
    omega
  | k + 1, 0, c, h, _ => by omega
  | k + 1, m + 1, c, hk, h => fun p hp a ha => deepest_of k m a (by omega) (by have := (prF_ge (f := deepF m) c.props 1).2 p hp a ha; simp only [deepF] at h; omega)
end Go.SL
