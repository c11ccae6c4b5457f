/- Plain: the reference's lists are the sets' numbers; each call on a pair of sets. -/
import Derived.Test.YtoaefmnjndklkaaDoorRP47
namespace Go.Proofs.YtoaefmnjndklkaaDoor
open Go.RowKit

theorem lu_filter {m p : Nat → Bool} : ∀ {f n : Nat}, (lu m f n).filter p = lu (fun j => m j && p j) f n
  | 0, n => rfl
  | f + 1, n => by
    rw [lu_succ, lu_succ]
    by_cases h : m n = true
    · rw [if_pos h]
      by_cases hp : p n = true
      · rw [List.filter_cons_of_pos hp, lu_filter, if_pos (by simp [h, hp])]
      · rw [List.filter_cons_of_neg hp, lu_filter, if_neg (by simp [h, hp])]
    · rw [if_neg h, lu_filter, if_neg (by simp [h])]
/-- A set's numbers, as ints. -/
def nums (m : Nat → Bool) (N : Nat) : List Int := ints (lst m N)
theorem nums_len (m : Nat → Bool) (N : Nat) : (nums m N).length ≤ N := by
  unfold nums
  rw [ints_len, lst_len]
  exact cnt_le _ _
theorem nums_filter (m : Nat → Bool) (N : Nat) (q : Int → Bool) : (nums m N).filter q = nums (fun j => m j && q (j : Int)) N := by
  unfold nums lst ints
  rw [List.filter_map, ← lu_filter]
  rfl
theorem nums_mem {m : Nat → Bool} {N : Nat} {x : Int} : x ∈ nums m N ↔ 0 ≤ x ∧ x < N ∧ m x.toNat = true := by
  unfold nums ints
  rw [List.mem_map]
  constructor
  · rintro ⟨j, hj, rfl⟩
    have := lst_mem.1 hj
    exact ⟨by omega, by omega, by rw [show ((j : Int)).toNat = j by omega]; exact this.2⟩
  · rintro ⟨h1, h2, h3⟩
    exact ⟨x.toNat, lst_mem.2 ⟨by omega, h3⟩, by omega⟩
theorem nums_congr {m m' : Nat → Bool} {N : Nat} (h : ∀ j, j < N → m j = m' j) : nums m N = nums m' N := by
  unfold nums lst
  rw [lu_congr (fun j _ h2 => h j (by omega))]
/-- n cut, n put. -/
def cmm (m : Nat → Bool) (n : Int) : Nat → Bool := fun j => m j && !decide ((j : Int) = n)
def pmm (m : Nat → Bool) (N : Nat) (n : Int) : Nat → Bool := fun j => m j || decide ((j : Int) = n ∧ j < N)
def okP (m : Nat → Bool) (N : Nat) (n : Int) : Bool := decide (0 ≤ n ∧ n < N) && !m n.toNat
theorem has_nums {m : Nat → Bool} {N : Nat} (hb : ∀ j, m j = true → j < N) (n : Int) : decide (n ∈ nums m N) = hasB m n := by
  unfold hasB
  rw [Bool.eq_iff_iff]
  simp only [decide_eq_true_eq, Bool.and_eq_true, nums_mem]
  constructor
  · rintro ⟨h1, h2, h3⟩; exact ⟨h1, h3⟩
  · rintro ⟨h1, h3⟩; exact ⟨h1, by have := hb _ h3; omega, h3⟩
theorem cut_nums (m : Nat → Bool) (N : Nat) (n : Int) : wo (nums m N) [n] = nums (cmm m n) N := by
  unfold wo
  rw [nums_filter]
  apply nums_congr
  intro j _
  simp [cmm]
theorem ins_nums {m : Nat → Bool} {N p : Nat} (hp : p < N) (hm : m p = false) : ins (nums m N) (p : Int) = nums (pmm m N p) N := by
  have e : lst m N = lu m p 0 ++ lu m (N - p - 1) (p + 1) := by
    unfold lst
    have h1 : N = p + ((N - p - 1) + 1) := by omega
    conv => lhs; rw [h1]
    rw [lu_add, Nat.zero_add, lu_succ, if_neg (by rw [hm]; simp)]
  have e2 : lst (pmm m N p) N = lu m p 0 ++ p :: lu m (N - p - 1) (p + 1) := by
    unfold lst
    have h1 : N = p + ((N - p - 1) + 1) := by omega
    conv => lhs; rw [show lu (pmm m N p) N 0 = lu (pmm m N p) (p + ((N - p - 1) + 1)) 0 by rw [← h1]]
    rw [lu_add, Nat.zero_add, lu_succ, if_pos (by simp [pmm, hp])]
    congr 1
    · exact lu_congr (fun j _ h2 => by
        unfold pmm
        have : decide ((j : Int) = (p : Int) ∧ j < N) = false := decide_eq_false (by omega)
        rw [this, Bool.or_false])
    · congr 1
      exact lu_congr (fun j h1 _ => by
        unfold pmm
        have : decide ((j : Int) = (p : Int) ∧ j < N) = false := decide_eq_false (by omega)
        rw [this, Bool.or_false])
  unfold nums ins
  rw [e, e2]
  have h1 : ∀ x ∈ ints (lu m p 0), x < (p : Int) := by
    intro x hx
    obtain ⟨j, hj, rfl⟩ := List.mem_map.1 hx
    have := (lu_mem.1 hj).2.1
    omega
  have h2 : ∀ x ∈ ints (lu m (N - p - 1) (p + 1)), ¬ x < (p : Int) := by
    intro x hx
    obtain ⟨j, hj, rfl⟩ := List.mem_map.1 hx
    have := (lu_mem.1 hj).1
    omega
  have e3 : ints (lu m p 0 ++ lu m (N - p - 1) (p + 1)) = ints (lu m p 0) ++ ints (lu m (N - p - 1) (p + 1)) := by simp [ints]
  have e4 : ints (lu m p 0 ++ p :: lu m (N - p - 1) (p + 1)) = ints (lu m p 0) ++ (p : Int) :: ints (lu m (N - p - 1) (p + 1)) := by simp [ints]
  rw [e3, e4]
  generalize ints (lu m p 0) = A at *
  generalize ints (lu m (N - p - 1) (p + 1)) = B at *
  rw [List.takeWhile_append_of_pos (by simpa using h1), List.dropWhile_append_of_pos (by simpa using h1)]
  cases B with
  | nil => simp
  | cons b B =>
    have := h2 b (by simp)
    rw [List.takeWhile_cons_of_neg (by simpa using this), List.dropWhile_cons_of_neg (by simpa using this)]
    simp
theorem pmm_has {m : Nat → Bool} {N : Nat} {n : Int} (h : okP m N n = false) (hb : ∀ j, m j = true → j < N) : pmm m N n = m := by
  funext j
  unfold pmm
  unfold okP at h
  by_cases e : (j : Int) = n ∧ j < N
  · rw [decide_eq_true (by omega), Bool.true_and] at h
    have : n.toNat = j := by omega
    rw [this] at h
    cases hm : m j with
    | true => rfl
    | false => rw [hm] at h; cases h
  · rw [decide_eq_false e, Bool.or_false]
theorem pmm_put {m : Nat → Bool} {N p : Nat} (hp : p < N) : pmm m N (p : Int) = putM m p := by
  funext j
  unfold pmm putM
  congr 1
  have : ((j : Int) = (p : Int) ∧ j < N) = (j = p) := by simp only [eq_iff_iff]; omega
  simp only [this]
theorem cmm_cut {m : Nat → Bool} {p : Nat} : cmm m (p : Int) = cutM m p := by
  funext j
  unfold cmm cutM
  have : ((j : Int) = (p : Int)) = (j = p) := by simp only [eq_iff_iff]; omega
  simp only [this]
theorem cmm_has {m : Nat → Bool} {n : Int} (h : hasB m n = false) : cmm m n = m := by
  funext j
  unfold cmm
  unfold hasB at h
  by_cases e : (j : Int) = n
  · have h0 : n.toNat = j := by omega
    rw [decide_eq_true (by omega), Bool.true_and, h0] at h
    rw [h]; rfl
  · rw [decide_eq_false e]; simp
theorem find_nums {m : Nat → Bool} {N : Nat} {n : Int} : findI (nums m N) n = nx m N n.toNat := by
  rw [nx_find]
  have e : findN (lst m N) (n.toNat : Int) = findN (lst m N) n := by
    by_cases h : 0 ≤ n
    · rw [show ((n.toNat : Nat) : Int) = n by omega]
    · rw [show n.toNat = 0 by omega, findN_neg _ (show n ≤ 0 by omega)]; rfl
  rw [e]
  unfold findI findN nums ints
  rw [List.find?_map]
  cases h : List.find? ((fun j => decide (n ≤ j)) ∘ fun (n : Nat) => (n : Int)) (lst m N) with
  | none => 
    have h2 : (lst m N).find? (fun (j : Nat) => decide (n ≤ (j : Int))) = none := h
    rw [h2]; rfl
  | some j =>
    have h2 : (lst m N).find? (fun (j : Nat) => decide (n ≤ (j : Int))) = some j := h
    rw [h2]; rfl
theorem less_nums {m : Nat → Bool} {N : Nat} {n : Int} : lessI (nums m N) n = below m N n := by
  unfold lessI below
  rw [nums_filter]
  unfold nums
  rw [ints_len, lst_len]
  obtain ⟨c, hc⟩ : ∃ c, (max 0 (min n (N : Int))).toNat = c := ⟨_, rfl⟩
  rw [hc]
  have hN : N = c + (N - c) := by omega
  rw [hN, cnt_add]
  have h1 : cnt (fun j => m j && decide ((j : Int) < n)) c = cnt m c := cnt_congr (fun j hj => by rw [decide_eq_true (by omega), Bool.and_true])
  have h2 : cnt (fun j => m (c + j) && decide (((c + j : Nat) : Int) < n)) (N - c) = 0 := by
    have : cnt (fun j => m (c + j) && decide (((c + j : Nat) : Int) < n)) (N - c) = cnt (fun _ => false) (N - c) := cnt_congr (fun j hj => by rw [decide_eq_false (by omega), Bool.and_false])
    rw [this]
    clear this
    induction (N - c) with
    | zero => rfl
    | succ n ih => simp [cnt, ih]
  rw [h1]
  show _ + cnt (fun j => m (c + j) && decide (((c + j : Nat) : Int) < n)) (N - c) = _
  rw [h2, Nat.add_zero]
theorem at_nums {m : Nat → Bool} {N : Nat} {n : Int} : atI (nums m N) n = if n < 0 then -1 else ati (lst m N) n.toNat := by
  unfold atI
  by_cases h : n < 0
  · rw [if_pos (.inl h), if_pos h]
  · rw [if_neg h]
    by_cases h2 : ((nums m N).length : Int) ≤ n
    · rw [if_pos (.inr h2)]
      unfold nums at h2
      rw [ints_len] at h2
      rw [ati_none (by omega)]
    · rw [if_neg (by omega)]
      unfold nums at h2 ⊢
      rw [ints_len] at h2
      obtain ⟨a, ha, hb⟩ := ati_some (l := lst m N) (k := n.toNat) (by omega)
      rw [hb]
      unfold il ints
      rw [List.getElem?_map, ha]
      rfl
theorem wo_nums (m n : Nat → Bool) (N : Nat) : wo (nums m N) (nums n N) = nums (mb31 m n) N := by
  unfold wo
  rw [nums_filter]
  apply nums_congr
  intro j hj
  unfold mb31
  congr 2
  rw [Bool.eq_iff_iff]
  simp only [decide_eq_true_eq, nums_mem]
  constructor
  · rintro ⟨_, _, h⟩; simpa using h
  · intro h; exact ⟨by omega, by omega, by simpa using h⟩
theorem less_less (m n : Nat → Bool) : mb31 m (mb31 m n) = mb30 m n := by
  funext j
  unfold mb31 mb30
  cases m j <;> cases n j <;> rfl
theorem cut_any (w : World) (sb g N : Nat) (m : Nat → Bool) (n : Int) (h : ST w sb g N m) (hN : N ≤ 4096) :
    Calls Tryd.prog 32 #[.pointer (some ⟨sb, 0, none⟩), .int .i64 n] w fun e w' => e = .returned (.bool (hasB m n)) ∧ ST w' sb g N (cmm m n) ∧ Kp (fun k => k = g) w w' := by
  cases hb : hasB m n with
  | false =>
    refine (cut_no w sb g N m n h hN hb).mono ?_
    rintro e w' ⟨he, rfl⟩
    rw [cmm_has hb]
    exact ⟨he, h, Kp.refl _ _⟩
  | true =>
    have hb2 := hb
    unfold hasB at hb2
    simp only [Bool.and_eq_true, decide_eq_true_eq] at hb2
    obtain ⟨p, rfl⟩ : ∃ p : Nat, n = p := ⟨n.toNat, by omega⟩
    have hp : m p = true := by simpa using hb2.2
    rw [cmm_cut]
    exact cut_yes w sb g N m p h hN (h.bound hp) hp
theorem putp_any (w : World) (sb g N : Nat) (m : Nat → Bool) (n : Int) (h : ST w sb g N m) (hN : N ≤ 4096) :
    Calls Tryd.prog 7 #[.pointer (some ⟨sb, 0, none⟩), .int .i64 n] w fun e w' => e = .returned (.bool (okP m N n)) ∧ ST w' sb g N (pmm m N n) ∧ Kp (fun k => k = g) w w' := by
  cases hb : okP m N n with
  | false =>
    refine (put_no w sb g N m n h hN ?_).mono ?_
    · unfold okP at hb
      by_cases h1 : 0 ≤ n ∧ n < N
      · rw [decide_eq_true h1, Bool.true_and] at hb
        right; right
        cases hm : m n.toNat with
        | true => rfl
        | false => rw [hm] at hb; cases hb
      · omega
    · rintro e w' ⟨he, rfl⟩
      rw [pmm_has hb (fun j hj => h.bound hj)]
      exact ⟨he, h, Kp.refl _ _⟩
  | true =>
    have hb2 := hb
    unfold okP at hb2
    simp only [Bool.and_eq_true, decide_eq_true_eq] at hb2
    obtain ⟨p, rfl⟩ : ∃ p : Nat, n = p := ⟨n.toNat, by omega⟩
    have hp : m p = false := by simpa using hb2.2
    rw [pmm_put (by omega)]
    exact put_yes w sb g N m p h hN (by omega) hp
theorem rcutp_any (w : World) (xb : Nat) (P : Nat → Prop) (N : Nat) (m : Nat → Bool) (n : Int) (h : RS w xb P N (nums m N)) (hb : ∀ j, m j = true → j < N) (hN : N ≤ 4096) :
    Calls Tryd.prog 33 #[.pointer (some ⟨xb, 0, none⟩), .int .i64 n] w fun e w' => e = .returned (.bool (hasB m n)) ∧ RS w' xb (fun k => w.heap.size ≤ k) N (nums (cmm m n) N) ∧ Kp (fun k => k = xb) w w' := by
  have := rcut_any w xb P N (nums m N) n h (by have := nums_len m N; omega)
  rw [has_nums hb, cut_nums] at this
  exact this
theorem rputp_any (w : World) (xb : Nat) (P : Nat → Prop) (N : Nat) (m : Nat → Bool) (n : Int) (h : RS w xb P N (nums m N)) (hb : ∀ j, m j = true → j < N) (hN : N ≤ 4096) :
    Calls Tryd.prog 17 #[.pointer (some ⟨xb, 0, none⟩), .int .i64 n] w fun e w' => e = .returned (.bool (okP m N n)) ∧ (∃ Q, RS w' xb Q N (nums (pmm m N n) N) ∧ ∀ k, Q k → P k ∨ w.heap.size ≤ k) ∧ Kp (fun k => k = xb) w w' := by
  have hl := nums_len m N
  cases ho : okP m N n with
  | false =>
    refine (rput_no w xb P N (nums m N) n h (by omega) ?_).mono ?_
    · unfold okP at ho
      by_cases h1 : 0 ≤ n ∧ n < N
      · rw [decide_eq_true h1, Bool.true_and] at ho
        right; right
        rw [nums_mem]
        refine ⟨h1.1, h1.2, ?_⟩
        cases hm : m n.toNat with
        | true => rfl
        | false => rw [hm] at ho; cases ho
      · omega
    · rintro e w' ⟨he, rfl⟩
      rw [pmm_has ho hb]
      exact ⟨he, ⟨P, h, fun _ e => .inl e⟩, Kp.refl _ _⟩
  | true =>
    have hb2 := ho
    unfold okP at hb2
    simp only [Bool.and_eq_true, decide_eq_true_eq] at hb2
    obtain ⟨p, rfl⟩ : ∃ p : Nat, n = p := ⟨n.toNat, by omega⟩
    have hp : m p = false := by simpa using hb2.2
    have := rput_yes w xb P N (nums m N) p h (by omega) hb2.1.1 hb2.1.2 (by
      rw [nums_mem]
      rintro ⟨_, _, h3⟩
      rw [show ((p : Int)).toNat = p by omega, hp] at h3
      cases h3)
    rw [ins_nums (by omega) hp] at this
    exact this.mono fun e w' he => ⟨he.1, ⟨_, he.2.1, fun _ e => .inr e⟩, he.2.2⟩
end Go.Proofs.YtoaefmnjndklkaaDoor
