/- Plain laws: a ring of places; tuples; a memory's rows. No program in sight. -/
import Derived.Test.YtdfhcjhhjjbpoaaKp
namespace Go.Proofs.Ytdfhcjhhjjbpoaa

def upd (f : Nat → Nat) (i x : Nat) : Nat → Nat := fun j => if j = i then x else f j
@[simp] theorem upd_same (f : Nat → Nat) (i x : Nat) : upd f i x i = x := by simp [upd]
theorem upd_other {f : Nat → Nat} {i x j : Nat} (h : j ≠ i) : upd f i x j = f j := by simp [upd, h]

/-- The ring's chain from a by the places l to z: bk leads on, ah leads back. -/
def chain (bk ah : Nat → Nat) : Nat → List Nat → Nat → Prop
  | a, [], z => bk a = z ∧ ah z = a
  | a, p :: ps, z => bk a = p ∧ ah p = a ∧ chain bk ah p ps z

theorem chain_congr {bk ah bk' ah' : Nat → Nat} {z : Nat} : ∀ {l : List Nat} {a : Nat}, chain bk ah a l z → (∀ q ∈ a :: l, bk' q = bk q) → (∀ q ∈ l, ah' q = ah q) → ah' z = ah z → chain bk' ah' a l z
  | [], a, h, hb, _, hz => ⟨by rw [hb a (by simp)]; exact h.1, by rw [hz]; exact h.2⟩
  | p :: ps, a, h, hb, ha, hz => ⟨by rw [hb a (by simp)]; exact h.1, by rw [ha p (by simp)]; exact h.2.1, chain_congr h.2.2 (fun q hq => hb q (by simp only [List.mem_cons] at hq ⊢; exact .inr hq)) (fun q hq => ha q (by simp only [List.mem_cons]; exact .inr hq)) hz⟩
theorem chain_split {bk ah : Nat → Nat} {i z : Nat} {ys : List Nat} : ∀ {xs : List Nat} {a : Nat}, chain bk ah a (xs ++ i :: ys) z ↔ chain bk ah a xs i ∧ chain bk ah i ys z
  | [], a => by simp [chain, and_assoc]
  | x :: xs, a => by simp only [List.cons_append, chain]; rw [chain_split]; simp [and_assoc]
theorem chain_ah {bk ah : Nat → Nat} {z : Nat} : ∀ {l : List Nat} {a : Nat}, chain bk ah a l z → ah z ∈ a :: l
  | [], a, h => by rw [h.2]; simp
  | p :: ps, a, h => by have := chain_ah h.2.2; simp only [List.mem_cons] at this ⊢; exact .inr this
theorem chain_bk {bk ah : Nat → Nat} {z : Nat} {l : List Nat} {a : Nat} (h : chain bk ah a l z) : bk a ∈ l ++ [z] := by
  cases l with
  | nil => simp [h.1]
  | cons p ps => rw [h.1]; simp
theorem chain_last {bk ah : Nat → Nat} {z : Nat} : ∀ {l : List Nat} {a : Nat}, chain bk ah a l z → ah z = (a :: l).getLast (by simp)
  | [], a, h => h.2
  | p :: ps, a, h => by rw [chain_last h.2.2]; simp
/-- A place is taken out. -/
theorem chain_out {bk ah : Nat → Nat} {i z : Nat} {ys : List Nat} : ∀ {xs : List Nat} {a : Nat}, chain bk ah a xs i → chain bk ah i ys z → (a :: (xs ++ i :: ys)).Nodup → z ∉ xs ++ i :: ys → chain (upd bk (ah i) (bk i)) (upd ah (bk i) (ah i)) a (xs ++ ys) z
  | [], a, h1, h2, hn, hz => by
    obtain ⟨e1, e2⟩ := h1
    simp only [List.nil_append, List.nodup_cons, List.mem_cons, not_or] at hn hz ⊢
    cases ys with
    | nil => simp only [chain] at h2 ⊢; exact ⟨by rw [e2, upd_same]; exact h2.1, by rw [h2.1, upd_same, e2]⟩
    | cons y ys =>
      obtain ⟨e3, e4, h3⟩ := h2
      simp only [List.mem_cons, not_or, List.nodup_cons] at hn hz
      refine ⟨by rw [e2, upd_same, e3], by rw [e3, upd_same, e2], chain_congr h3 (fun q hq => upd_other ?_) (fun q hq => upd_other ?_) (upd_other ?_)⟩
      · rw [e2]; rintro rfl
        simp only [List.mem_cons] at hq
        rcases hq with rfl | hq
        · exact hn.1.2.1 rfl
        · exact hn.1.2.2 hq
      · rw [e3]; rintro rfl; exact hn.2.2.1 hq
      · rw [e3]; exact hz.2.1
  | x :: xs, a, h1, h2, hn, hz => by
    obtain ⟨e1, e2, h3⟩ := h1
    have hi := chain_ah h3
    have hb := chain_bk h2
    simp only [List.cons_append, List.nodup_cons, List.mem_cons, not_or, List.mem_append, List.not_mem_nil, or_false] at hn hz hi hb ⊢
    have ha : a ≠ ah i := by rintro rfl; exact hi.elim (fun h => hn.1.1 h) (fun h => hn.1.2.1 h)
    have hx : x ≠ bk i := by
      intro h; rw [← h] at hb
      rcases hb with h | h
      · exact hn.2.1.2.2 h
      · exact hz.1 h.symm
    exact ⟨by rw [upd_other ha]; exact e1, by rw [upd_other hx]; exact e2, chain_out h3 h2 (by simp only [List.nodup_cons, List.mem_append, List.mem_cons, not_or]; exact hn.2) (by simp only [List.mem_append, List.mem_cons, not_or]; exact hz.2)⟩
/-- A place is laid ahead. -/
theorem chain_first {bk ah : Nat → Nat} {i : Nat} {ps : List Nat} (h : chain bk ah 0 ps 0) (hi : i ≠ 0) (hn : i ∉ ps) (h0 : (0 :: ps).Nodup) :
    chain (upd (upd bk i (bk 0)) 0 i) (upd (upd ah i 0) (bk 0) i) 0 (i :: ps) 0 := by
  cases ps with
  | nil =>
    obtain ⟨e1, e2⟩ := h
    rw [e1]
    refine ⟨by simp, by rw [upd_other hi, upd_same], by rw [upd_other hi, upd_same], by simp⟩
  | cons p ps =>
    obtain ⟨e1, e2, h3⟩ := h
    rw [e1]
    simp only [List.mem_cons, not_or, List.nodup_cons] at hn h0
    refine ⟨by simp, by rw [upd_other hn.1, upd_same], by rw [upd_other hi, upd_same], by simp, chain_congr h3 (fun q hq => ?_) (fun q hq => ?_) ?_⟩
    · simp only [List.mem_cons] at hq
      have h1 : q ≠ 0 := by rintro rfl; exact hq.elim (fun h => h0.1.1 h) (fun h => h0.1.2 h)
      have h2 : q ≠ i := by rintro rfl; exact hq.elim (fun h => hn.1 h) (fun h => hn.2 h)
      rw [upd_other h1, upd_other h2]
    · have h1 : q ≠ p := by rintro rfl; exact h0.2.1 hq
      have h2 : q ≠ i := by rintro rfl; exact hn.2 hq
      rw [upd_other h1, upd_other h2]
    · rw [upd_other (fun e => h0.1.1 e), upd_other (fun e => hi e.symm)]

/-- A tuple. -/
structure Tup where
  p : Int
  a : Bool
  b : Int
  c : Int
  d : Bool
  e : Int
  f : Int
  s : Int
  t : Int
  deriving DecidableEq
/-- An entry of the memory: its tuple, its number, its place. -/
structure Ent where
  t : Tup
  n : Int
  p : Nat
def cutE (t : Tup) (l : List Ent) : List Ent := l.filter fun e => !decide (e.t = t)
def findE (t : Tup) (l : List Ent) : Option Ent := l.find? fun e => decide (e.t = t)
theorem findE_split {t : Tup} {x : Ent} : ∀ {l : List Ent}, findE t l = some x → (l.map (·.t)).Nodup → ∃ xs ys, l = xs ++ x :: ys ∧ x.t = t ∧ cutE t l = xs ++ ys
  | [], h, _ => by simp [findE] at h
  | e :: l, h, hn => by
    simp only [findE, List.find?_cons] at h
    simp only [List.map_cons, List.nodup_cons] at hn
    by_cases he : e.t = t
    · simp [he] at h
      subst h
      refine ⟨[], l, rfl, he, ?_⟩
      simp only [cutE, List.filter_cons, he, decide_true, Bool.not_true, List.nil_append]
      rw [if_neg (by simp), List.filter_eq_self]
      intro y hy
      simp only [Bool.not_eq_true', decide_eq_false_iff_not]
      rintro h2
      exact hn.1 (List.mem_map.2 ⟨y, hy, by rw [h2, he]⟩)
    · simp [he] at h
      obtain ⟨xs, ys, rfl, h2, h3⟩ := findE_split (l := l) h hn.2
      refine ⟨e :: xs, ys, rfl, h2, ?_⟩
      simp only [cutE, List.filter_cons] at h3 ⊢
      rw [if_pos (by simp [he]), h3]
      rfl
theorem findE_none {t : Tup} {l : List Ent} (h : findE t l = none) : cutE t l = l := by
  simp only [findE, List.find?_eq_none, decide_eq_true_eq] at h
  simp only [cutE, List.filter_eq_self, Bool.not_eq_true', decide_eq_false_iff_not]
  exact h
theorem findE_cut_same (t : Tup) (l : List Ent) : findE t (cutE t l) = none := by
  simp [findE, cutE, List.find?_eq_none]
theorem findE_cut_other {t u : Tup} (h : u ≠ t) : ∀ l : List Ent, findE u (cutE t l) = findE u l
  | [] => rfl
  | e :: l => by
    have ih := findE_cut_other h l
    simp only [cutE, findE, List.filter_cons, List.find?_cons] at ih ⊢
    by_cases he : e.t = t
    · have : e.t ≠ u := fun h2 => h (by rw [← h2, he])
      simp [he, Ne.symm h, ih]
    · simp only [he, decide_false, Bool.not_false, if_true, List.find?_cons, ih]
theorem cutE_length (t : Tup) (l : List Ent) : (cutE t l).length ≤ l.length := List.length_filter_le _ _
end Go.Proofs.Ytdfhcjhhjjbpoaa
