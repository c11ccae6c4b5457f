/- Sorted insertion: the list that Good makes; what an index of it says. -/
import Derived.Test.YtggfjpfjpinhoaaParts
namespace Go.Proofs.Ytggfjpfjpinhoaa

def ins (x : Int) : List Int → List Int
  | [] => [x]
  | a :: s => if a ≤ x then a :: ins x s else x :: a :: s
def good (l : List Int) : List Int := l.foldl (fun s x => if x < 0 then s else ins x s) []
theorem good_snoc (l : List Int) (x : Int) : good (l ++ [x]) = if x < 0 then good l else ins x (good l) := by simp [good]
theorem ins_length (x : Int) (s : List Int) : (ins x s).length = s.length + 1 := by
  induction s with
  | nil => rfl
  | cons a s ih => unfold ins; split <;> simp [ih]
theorem ins_perm (x : Int) (s : List Int) : (ins x s).Perm (s ++ [x]) := by
  induction s with
  | nil => exact List.Perm.refl _
  | cons a s ih =>
    unfold ins
    split
    · exact List.Perm.cons a ih
    · exact (List.perm_append_comm (l₁ := [x]) (l₂ := a :: s))
theorem good_perm (l : List Int) : (good l).Perm (pos l) := by
  have key : ∀ (l : List Int) (n : Nat), l.length = n → (good l).Perm (pos l) := by
    intro l n
    induction n generalizing l with
    | zero => intro h; rw [List.length_eq_zero_iff] at h; subst h; exact List.Perm.refl _
    | succ n ih =>
      intro h
      obtain ⟨l', x, rfl⟩ : ∃ l' x, l = l' ++ [x] := ⟨l.dropLast, l.getLast (by intro e; subst e; simp at h), (List.dropLast_concat_getLast _).symm⟩
      have hl := ih l' (by simp at h; exact h)
      rw [good_snoc, pos_snoc]
      by_cases hx : x < 0
      · rw [if_pos hx, if_neg (by omega)]; exact hl
      · rw [if_neg hx, if_pos (by omega)]
        exact (ins_perm x _).trans (hl.append_right [x])
  exact key l _ rfl
def Srt (s : List Int) : Prop := s.Pairwise (· ≤ ·)
theorem ins_srt {x : Int} {s : List Int} (h : Srt s) : Srt (ins x s) := by
  induction s with
  | nil => exact List.pairwise_singleton _ _
  | cons a s ih =>
    unfold Srt at h ih ⊢
    rw [List.pairwise_cons] at h
    unfold ins
    split
    · rename_i hle
      rw [List.pairwise_cons]
      refine ⟨fun b hb => ?_, ih h.2⟩
      have := (ins_perm x s).subset hb
      rw [List.mem_append, List.mem_singleton] at this
      rcases this with h1 | rfl
      · exact h.1 b h1
      · exact hle
    · rename_i hle
      rw [List.pairwise_cons, List.pairwise_cons]
      refine ⟨fun b hb => ?_, h⟩
      rcases List.mem_cons.1 hb with rfl | h1
      · omega
      · have := h.1 b h1; omega
theorem good_srt (l : List Int) : Srt (good l) := by
  have key : ∀ (l s : List Int), Srt s → Srt (l.foldl (fun s x => if x < 0 then s else ins x s) s) := by
    intro l
    induction l with
    | nil => intro s h; exact h
    | cons a t ih =>
      intro s h
      simp only [List.foldl_cons]
      apply ih
      split
      · exact h
      · exact ins_srt h
  exact key l [] List.Pairwise.nil
/-- Where it is laid in. -/
theorem ins_at (x : Int) : ∀ (s : List Int) (j : Nat), j ≤ s.length → (∀ i, i < j → ia s i ≤ x) → (j = s.length ∨ x < ia s j) → s.take j ++ x :: s.drop j = ins x s
  | [], j, hj, _, _ => by
    have : j = 0 := by simpa using hj
    subst this; rfl
  | a :: s, 0, _, _, h => by
    have : x < a := by
      rcases h with h | h
      · simp at h
      · exact h
    unfold ins
    rw [if_neg (by omega)]
    rfl
  | a :: s, j + 1, hj, hb, h => by
    have ha : a ≤ x := hb 0 (by omega)
    unfold ins
    rw [if_pos ha, ← ins_at x s j (by simpa using hj) (fun i hi => hb (i + 1) (by omega)) (by
      rcases h with h | h
      · left; simpa using h
      · right; exact h)]
    rfl
/-- In a sorted list those of lesser widths stand first. -/
theorem srt_row : ∀ (s : List Int) (k i : Nat), Srt s → Ok s → i < s.length → (i < bW s k ↔ wd (ia s i) < k)
  | [], _, _, _, _, h => by simp at h
  | a :: s, k, i, hs, hok, hi => by
    unfold Srt at hs
    rw [List.pairwise_cons] at hs
    have hoks : Ok s := fun x hx => hok x (by simp [hx])
    by_cases ha : wd a < k
    · have e : bW (a :: s) k = bW s k + 1 := by simp [bW, List.countP_cons, ha]
      rw [e]
      match i with
      | 0 => exact ⟨fun _ => ha, fun _ => by omega⟩
      | i + 1 =>
        have := srt_row s k i hs.2 hoks (by simpa using hi)
        show i + 1 < bW s k + 1 ↔ wd (ia s i) < k
        omega
    · have e : bW (a :: s) k = 0 := by
        unfold bW
        rw [List.countP_eq_zero]
        intro x hx
        have hle : a ≤ x := by
          rcases List.mem_cons.1 hx with rfl | h1
          · exact Int.le_refl _
          · exact hs.1 x h1
        have h0 := (hok a (by simp)).1
        have h1 := (hok x hx).2
        have := wd_mono h0 hle (by omega)
        simp; omega
      rw [e]
      constructor
      · intro h; omega
      · intro h
        have hm := ia_mem hi
        have hle : a ≤ ia (a :: s) i := by
          rcases List.mem_cons.1 hm with h2 | h2
          · rw [h2]; exact Int.le_refl _
          · exact hs.1 _ h2
        have h0 := (hok a (by simp)).1
        have h1 := (hok _ hm).2
        have := wd_mono h0 hle (by omega)
        omega
theorem srt_ends {s : List Int} (hs : Srt s) (h0 : 0 < s.length) : ∀ x ∈ s, ia s 0 ≤ x ∧ x ≤ ia s (s.length - 1) := by
  intro x hx
  obtain ⟨i, hi, rfl⟩ := List.getElem_of_mem hx
  have hpw := List.pairwise_iff_getElem.1 hs
  have e0 : ia s 0 = s[0] := by simp [ia, List.getD_eq_getElem?_getD, List.getElem?_eq_getElem h0]
  have e1 : ia s (s.length - 1) = s[s.length - 1] := by simp [ia, List.getD_eq_getElem?_getD, List.getElem?_eq_getElem (show s.length - 1 < s.length by omega)]
  rw [e0, e1]
  refine ⟨?_, ?_⟩
  · rcases Nat.eq_zero_or_pos i with rfl | h
    · exact Int.le_refl _
    · exact hpw 0 i h0 hi h
  · rcases Nat.lt_or_ge i (s.length - 1) with h | h
    · exact hpw i (s.length - 1) hi (by omega) h
    · have : i = s.length - 1 := by omega
      subst this; exact Int.le_refl _
theorem ends_srt {s xs : List Int} {l m : Int} (hs : Srt s) (hp : s.Perm xs) (he : Ends xs l m) (h0 : 0 < s.length) : l = ia s 0 ∧ m = ia s (s.length - 1) := by
  have hx : xs ≠ [] := by rintro rfl; have := hp.length_eq; simp at this; simp [this] at h0
  rcases he with ⟨h, _⟩ | ⟨h1, h2, h3⟩
  · exact absurd h hx
  · have g := srt_ends hs h0
    have a1 := (g l (hp.symm.subset h1)).1
    have a2 := (h3 _ (hp.subset (ia_mem h0))).1
    have b1 := (g m (hp.symm.subset h2)).2
    have b2 := (h3 _ (hp.subset (ia_mem (show s.length - 1 < s.length by omega)))).2
    exact ⟨by omega, by omega⟩
theorem Ok.perm {s xs : List Int} (h : Ok xs) (hp : s.Perm xs) : Ok s := fun x hx => h x (hp.subset hx)
theorem cW_perm {s xs : List Int} (hp : s.Perm xs) (k : Nat) : cW s k = cW xs k := hp.countP_eq _
theorem bW_perm {s xs : List Int} (hp : s.Perm xs) (k : Nat) : bW s k = bW xs k := hp.countP_eq _
theorem sm_perm {s xs : List Int} (hp : s.Perm xs) : sm s = sm xs := by
  induction hp with
  | nil => rfl
  | cons x _ ih => rw [sm_cons, sm_cons, ih]
  | swap x y l => rw [sm_cons, sm_cons, sm_cons, sm_cons]; omega
  | trans _ _ ih1 ih2 => rw [ih1, ih2]
end Go.Proofs.Ytggfjpfjpinhoaa
