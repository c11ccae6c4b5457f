/- Facts on spans for the law SeqOne, with no program in sight. -/
import Derived.Test.YtadhmmhffehebaaTells
import Derived.Deep.DeepCutAuto
namespace Go.Proofs.Ytadhmmhffehebaa
open Go.RowKit
set_option linter.unusedVariables false

/-- A callee's contract, met in a world that has grown twice. -/
theorem Calls.in_gr2 {P : Program} {f : FuncId} {args : Array Value} {w : World} {p a : Gr} {v : Value}
    (h : Calls P f args (w.gr ⟨a.d, p.os ++ a.os⟩) fun e w' => e = .returned v ∧ Gn (w.gr ⟨a.d, p.os ++ a.os⟩) w') :
    Calls P f args (w.gr ⟨a.d, p.os ++ a.os⟩) fun e w'' => e = .returned v ∧ ∃ q : Gr, w'' = w.gr ⟨q.d, p.os ++ q.os⟩ :=
  h.mono fun _ _ ⟨he, q, hq⟩ => ⟨he, ⟨q.d, a.os ++ q.os⟩, by rw [hq]; simp [World.gr, Array.append_assoc]⟩
theorem apart_zero {f g : Int} (hf : 0 ≤ f ∧ f ≤ 4294967295) (hg : 0 ≤ g ∧ g ≤ 4294967295) (h : apartI f g = 0) : f = g := by
  unfold apartI at h
  omega
theorem meetS_comm (f n g m : Int) (hf : 0 ≤ f ∧ f ≤ 4294967295) (hg : 0 ≤ g ∧ g ≤ 4294967295) : meetS g m f n = meetS f n g m := by
  cases hb : apartB f n g m
  · rw [meetS_no hb, meetS_no]
    cases hc : apartB g m f n
    · rfl
    · rw [apartB_swap hc] at hb; cases hb
  · have hs := apartB_spec hb
    by_cases h1 : apartI f g < 0
    · exact (meetS_swap hb h1).symm
    · by_cases h2 : apartI f g = 0
      · obtain rfl := apart_zero hf hg h2
        unfold meetS
        rw [hb, apartB_swap hb, h2]
        simp only [Int.le_refl, if_true, Int.sub_zero]
        rw [Int.min_comm]
      · have := apartI_swap ⟨hs.1, hs.2.1⟩
        exact meetS_swap (apartB_swap hb) (by omega)
theorem meetS_in {f n g m : Int} (x : Int) (h : (meetS f n g m).2.2 = true) : inB (meetS f n g m).1 (meetS f n g m).2.1 x = (inB f n x && inB g m x) ∧ 1 ≤ (meetS f n g m).2.1 := by
  cases hb : apartB f n g m
  · rw [meetS_no hb] at h; cases h
  · have hs := apartB_spec hb
    have hD : apartI f g = (g - f + 2147483648) % 4294967296 - 2147483648 := rfl
    rw [Bool.eq_iff_iff]
    unfold meetS at h ⊢
    simp only [hb, if_true] at h ⊢
    split at h
    · rename_i h1
      split at h
      · rename_i h2
        rw [if_pos h1, if_pos h2]
        simp only [inB, mayB, Bool.and_eq_true, decide_eq_true_eq]
        generalize apartI f g = D at *
        omega
      · cases h
    · rename_i h1
      split at h
      · rename_i h2
        rw [if_neg h1, if_pos h2]
        simp only [inB, mayB, Bool.and_eq_true, decide_eq_true_eq]
        generalize apartI f g = D at *
        omega
      · cases h
theorem joinS_in {f n g m : Int} (x : Int) (h : (joinS f n g m).2.2 = true) (hx : inB f n x = true ∨ inB g m x = true) : inB (joinS f n g m).1 (joinS f n g m).2.1 x = true := by
  unfold joinS at h ⊢
  split at h
  · rename_i h0
    have hs := apartB_spec h0.1
    have hD : apartI f g = (g - f + 2147483648) % 4294967296 - 2147483648 := rfl
    rw [if_pos h0]
    split at h
    · rename_i h1
      split at h
      · rename_i h2
        rw [if_pos h1, if_pos h2]
        simp only [inB, mayB, Bool.and_eq_true, decide_eq_true_eq] at hx ⊢
        generalize apartI f g = D at *
        omega
      · cases h
    · rename_i h1
      split at h
      · rename_i h2
        rw [if_neg h1, if_pos h2]
        simp only [inB, mayB, Bool.and_eq_true, decide_eq_true_eq] at hx ⊢
        generalize apartI f g = D at *
        omega
      · cases h
  · cases h
/-- of two numbers just one is before the other one, unless they are one, or 2^31 apart -/
theorem before_cases (n m : Int) (hn : 0 ≤ n ∧ n ≤ 4294967295) (hm : 0 ≤ m ∧ m ≤ 4294967295) :
    (n = m ∧ beforeB n m = false ∧ beforeB m n = false) ∨ (n ≠ m ∧ (n - m) % 4294967296 = 2147483648 ∧ beforeB n m = false ∧ beforeB m n = false) ∨
    (n ≠ m ∧ (n - m) % 4294967296 ≠ 2147483648 ∧ beforeB n m = true ∧ beforeB m n = false) ∨ (n ≠ m ∧ (n - m) % 4294967296 ≠ 2147483648 ∧ beforeB n m = false ∧ beforeB m n = true) := by
  simp only [beforeB, decide_eq_true_eq, decide_eq_false_iff_not]
  omega
theorem before_self (n : Int) : beforeB n n = false := by simp [beforeB]
end Go.Proofs.Ytadhmmhffehebaa
