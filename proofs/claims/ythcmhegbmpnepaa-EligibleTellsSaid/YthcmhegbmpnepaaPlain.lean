/- The plain law of EligibleSpans: of as many numbers as the weight each backend has as many as it weighs. No program in sight. -/
import Derived.Test.YthcmhegbmpnepaaOf
import Derived.Test.YthcmhegbmpnepaaRight
namespace Go.Proofs.Ythcmhegbmpnepaa

/-- In how many of the spans' first n numbers b is found. -/
def cnt (F : List B) (b : B) : Nat → Nat
  | 0 => 0
  | n + 1 => cnt F b n + if atB F n = b then 1 else 0
def Pos (F : List B) : Prop := ∀ b ∈ F, 0 < b.wt
theorem Pos.sum {F : List B} (h : Pos F) : 0 ≤ sumW F := by
  induction F with
  | nil => simp [sumW]
  | cons c F ih =>
    have := ih (fun b hb => h b (List.mem_cons_of_mem _ hb))
    have := h c (List.mem_cons_self ..)
    simp only [sumW]
    omega
theorem pos_lt {F : List B} (h : Pos F) (n : Int) (h0 : 0 ≤ n) : pos F n < F.length ↔ n < sumW F := by
  induction F generalizing n with
  | nil => simp [pos, sumW]; omega
  | cons c F ih =>
    have hp := Pos.sum (F := F) (fun b hb => h b (List.mem_cons_of_mem _ hb))
    unfold pos
    simp only [sumW, List.length_cons]
    split
    · constructor <;> intro <;> omega
    · rename_i hc
      have := ih (fun b hb => h b (List.mem_cons_of_mem _ hb)) (n - c.wt) (by omega)
      rw [Nat.add_lt_add_iff_right, this]
      omega
theorem atOk_eq {F : List B} (h : Pos F) (n : Int) (h0 : 0 ≤ n) : atOk F n = decide (n < sumW F) := by
  unfold atOk
  rw [decide_eq_decide, pos_lt h n h0]
  omega
theorem atB_head {c : B} {F : List B} {n : Int} (h0 : 0 ≤ n) (h : n < c.wt) : atB (c :: F) n = c := by
  unfold atB
  have : pos (c :: F) n = 0 := by unfold pos; rw [if_pos h]
  rw [this, if_pos ⟨h0, by simp⟩]
  rfl
theorem atB_tail {c : B} {F : List B} {n : Int} (h0 : 0 ≤ n) (hc : 0 ≤ c.wt) : atB (c :: F) (c.wt + n) = atB F n := by
  unfold atB
  have : pos (c :: F) (c.wt + n) = pos F n + 1 := by
    have e : c.wt + n - c.wt = n := by omega
    rw [pos, if_neg (by omega), e]
  rw [this]
  simp only [List.length_cons, Nat.add_lt_add_iff_right]
  by_cases h : pos F n < F.length
  · rw [if_pos ⟨by omega, h⟩, if_pos ⟨h0, h⟩]
    rfl
  · rw [if_neg (by omega), if_neg (by omega)]
theorem cnt_head {c b : B} {F : List B} (n : Nat) (h : (n : Int) ≤ c.wt) : cnt (c :: F) b n = if c = b then n else 0 := by
  induction n with
  | zero => simp [cnt]
  | succ n ih =>
    rw [cnt, ih (by omega), atB_head (by omega) (by omega)]
    split <;> rfl
theorem cnt_tail {c b : B} {F : List B} (k : Nat) (hk : (k : Int) = c.wt) (n : Nat) : cnt (c :: F) b (k + n) = (if c = b then k else 0) + cnt F b n := by
  induction n with
  | zero => rw [Nat.add_zero, cnt_head k (by omega)]; simp [cnt]
  | succ n ih =>
    rw [← Nat.add_assoc, cnt, ih, cnt]
    have := atB_tail (c := c) (F := F) (n := n) (by omega) (by omega)
    rw [show ((k + n : Nat) : Int) = c.wt + (n : Int) by omega, this]
    omega
theorem cnt_all {F : List B} (h : Pos F) (b : B) (n : Nat) (hn : (n : Int) = sumW F) : cnt F b n = F.count b * b.wt.toNat := by
  induction F generalizing n with
  | nil =>
    simp only [sumW] at hn
    obtain rfl : n = 0 := by omega
    simp [cnt]
  | cons c F ih =>
    have h' : Pos F := fun b hb => h b (List.mem_cons_of_mem _ hb)
    have hs := Pos.sum h'
    have hc := h c (List.mem_cons_self ..)
    simp only [sumW] at hn
    have e : n = c.wt.toNat + (n - c.wt.toNat) := by omega
    rw [e, cnt_tail c.wt.toNat (by omega), ih h' (n - c.wt.toNat) (by omega), List.count_cons]
    by_cases hcb : c = b
    · subst hcb
      simp only [if_true, beq_self_eq_true]
      rw [Nat.add_mul, Nat.one_mul, Nat.add_comm]
    · have : (c == b) = false := by simpa using hcb
      simp [hcb, this]

theorem Right.lt {l : List B} (h : Right l) : ∀ j i, i < j → j < l.length → (el l i).id < (el l j).id := by
  intro j
  induction j with
  | zero => intro i hi; omega
  | succ j ih =>
    intro i hi hj
    have h1 := h (j + 1) hj
    simp only [badAt, decide_eq_false_iff_not, Nat.add_sub_cancel] at h1
    have h2 : (el l j).id < (el l (j + 1)).id := by omega
    rcases Nat.lt_succ_iff_lt_or_eq.1 hi with h3 | rfl
    · exact Int.lt_trans (ih i h3 (by omega)) h2
    · exact h2
theorem Right.pair {l : List B} (h : Right l) : l.Pairwise fun a b => a.id < b.id := by
  rw [List.pairwise_iff_getElem]
  intro i j hi hj hij
  have := h.lt j i hij hj
  simpa [el, hi, hj] using this
theorem Right.nodup {l : List B} (h : Right l) : l.Nodup := h.pair.imp fun hab e => by subst e; omega
theorem Right.inj {l : List B} (h : Right l) {a b : B} (ha : a ∈ l) (hb : b ∈ l) (e : a.id = b.id) : a = b := by
  obtain ⟨i, hi, rfl⟩ := List.getElem_of_mem ha
  obtain ⟨j, hj, rfl⟩ := List.getElem_of_mem hb
  have p := List.pairwise_iff_getElem.1 h.pair
  rcases Nat.lt_trichotomy i j with h1 | rfl | h1
  · have := p i j hi hj h1; omega
  · rfl
  · have := p j i hj hi h1; omega

/-- What the law wants of backend b. -/
def want (b : B) : Int := if b.st = 1 then b.wt else 0
theorem filt_pos (l : List B) : Pos (l.filter ok) := by
  intro b hb
  have := (List.mem_filter.1 hb).2
  simp [ok] at this
  exact this.2
theorem count_want {l : List B} (h : Right l) {b : B} (hb : b ∈ l) (n : Nat) (hn : (n : Int) = sumW (l.filter ok)) : (cnt (l.filter ok) b n : Int) = want b := by
  rw [cnt_all (filt_pos l) b n hn]
  have hw : 0 ≤ b.wt := by
    obtain ⟨i, hi, rfl⟩ := List.getElem_of_mem hb
    have := h i hi
    simp only [badAt, decide_eq_false_iff_not, el, List.getD_eq_getElem?_getD, List.getElem?_eq_getElem hi, Option.getD_some] at this
    omega
  unfold want
  by_cases hk : ok b = true
  · have hm : b ∈ l.filter ok := List.mem_filter.2 ⟨hb, hk⟩
    rw [List.Nodup.count (List.Pairwise.filter _ h.nodup), if_pos hm]
    simp [ok] at hk
    rw [if_pos hk.1]
    omega
  · have hm : b ∉ l.filter ok := fun hh => hk (List.mem_filter.1 hh).2
    rw [List.count_eq_zero.2 hm]
    simp [ok] at hk
    split
    · have := hk (by assumption); omega
    · simp
theorem has_want {l : List B} (h : Right l) {b : B} (hb : b ∈ l) : hasB (l.filter ok) b.id = decide (0 < want b) := by
  rw [hasB_eq, Bool.eq_iff_iff, List.any_eq_true, decide_eq_true_eq]
  unfold want
  constructor
  · rintro ⟨c, hc, he⟩
    obtain ⟨hc1, hc2⟩ := List.mem_filter.1 hc
    obtain rfl := h.inj hc1 hb (by simpa using he)
    simp [ok] at hc2
    rw [if_pos hc2.1]
    exact hc2.2
  · intro hw
    split at hw
    · exact ⟨b, List.mem_filter.2 ⟨hb, by simp [ok]; omega⟩, by simp⟩
    · omega
theorem at_ok {l : List B} (n : Nat) (hn : (n : Int) < sumW (l.filter ok)) : atOk (l.filter ok) n = true ∧ (atB (l.filter ok) n).st = 1 ∧ 0 < (atB (l.filter ok) n).wt ∧ atB (l.filter ok) n ∈ l := by
  have hp := (pos_lt (filt_pos l) n (by omega)).2 hn
  refine ⟨by unfold atOk; simp; exact hp, ?_⟩
  have e : atB (l.filter ok) n = el (l.filter ok) (pos (l.filter ok) n) := by unfold atB; rw [if_pos ⟨by omega, hp⟩]
  have hm := List.mem_filter.1 (el_mem hp)
  have := hm.2
  rw [e]
  simp [ok] at this
  exact ⟨this.1, this.2, hm.1⟩
theorem at_end (l : List B) : atOk (l.filter ok) (sumW (l.filter ok)) = false := by
  rw [atOk_eq (filt_pos l) _ (filt_pos l).sum]
  simp
end Go.Proofs.Ythcmhegbmpnepaa
