/- The law LruLast without the program: the last unlike ones. -/
import Derived.Test.YtdfhcjhhjjbpoaaO52
namespace Go.Proofs.Ytdfhcjhhjjbpoaa

/-- The unlike ones of the first k, the last ahead, each with its last place. -/
def U (l : List Tup) : Nat → List (Tup × Nat)
  | 0 => []
  | k + 1 => (tl l k, k) :: (U l k).filter fun e => !decide (e.1 = tl l k)
def prs (es : List Ent) : List (Tup × Int) := es.map fun e => (e.t, e.n)
def up (r : List (Tup × Nat)) : List (Tup × Int) := r.map fun e => (e.1, (e.2 : Int))
def cutR (t : Tup) (r : List (Tup × Int)) : List (Tup × Int) := r.filter fun e => !decide (e.1 = t)
theorem prs_cut (t : Tup) (es : List Ent) : prs (cutE t es) = cutR t (prs es) := by
  simp only [prs, cutE, cutR, List.filter_map]
  rfl
theorem U_nodup (l : List Tup) : ∀ k, ((U l k).map (·.1)).Nodup
  | 0 => by simp [U]
  | k + 1 => by
    simp only [U, List.map_cons, List.nodup_cons]
    refine ⟨fun h => ?_, (U_nodup l k).sublist (List.Sublist.map _ (List.filter_sublist))⟩
    obtain ⟨e, he, h2⟩ := List.mem_map.1 h
    have := (List.mem_filter.1 he).2
    simp [h2] at this
theorem U_len (l : List Tup) : ∀ k, (U l k).length ≤ k
  | 0 => by simp [U]
  | k + 1 => by
    have := U_len l k
    have := List.length_filter_le (fun e => !decide (e.1 = tl l k)) (U l k)
    simp only [U, List.length_cons]
    omega
theorem cutR_none {t : Tup} {r : List (Tup × Int)} (h : t ∉ r.map (·.1)) : cutR t r = r := by
  simp only [cutR, List.filter_eq_self, Bool.not_eq_true', decide_eq_false_iff_not]
  intro e he h2
  exact h (List.mem_map.2 ⟨e, he, h2⟩)
/-- One more put. -/
theorem take_put {t : Tup} {x : Int} {r : List (Tup × Int)} (hn : (r.map (·.1)).Nodup) (n : Nat) :
    let r1 := (t, x) :: cutR t (r.take n)
    (if (r1.length : Int) ≤ n then r1 else r1.dropLast) = ((t, x) :: cutR t r).take n := by
  intro r1
  by_cases ht : t ∈ (r.take n).map (·.1)
  · -- t is among the first n
    obtain ⟨e, he, h2⟩ := List.mem_map.1 ht
    obtain ⟨xs, ys, hxy⟩ := List.append_of_mem he
    have hr : r = xs ++ e :: (ys ++ r.drop n) := by
      have h0 := List.take_append_drop n r
      rw [hxy] at h0
      exact h0.symm.trans (by simp)
    rw [hr] at hn
    simp only [List.map_append, List.map_cons] at hn
    have hn1 := List.nodup_append.1 hn
    have hn2 := List.nodup_cons.1 hn1.2.1
    have hx : cutR t xs = xs := cutR_none (fun h => hn1.2.2 t h t (by rw [← h2]; simp) rfl)
    have hy : cutR t ys = ys := cutR_none (fun h => hn2.1 (by rw [h2]; exact List.mem_append_left _ h))
    have hd : cutR t (r.drop n) = r.drop n := cutR_none (fun h => hn2.1 (by rw [h2]; exact List.mem_append_right _ h))
    have hce : ∀ zs, cutR t (e :: zs) = cutR t zs := fun zs => by simp [cutR, h2]
    have happ : ∀ a b, cutR t (a ++ b) = cutR t a ++ cutR t b := fun a b => by simp [cutR]
    have h3 : cutR t (r.take n) = xs ++ ys := by rw [hxy, happ, hce, hx, hy]
    have h4 : cutR t r = xs ++ ys ++ r.drop n := by rw [hr, happ, hce, happ, hx, hy, ← hr, hd, List.append_assoc]
    have hl : (xs ++ e :: ys).length ≤ n := by rw [← hxy]; exact List.length_take_le _ _
    have hlt : (r.take n).length = (xs ++ ys).length + 1 := by rw [hxy]; simp; omega
    simp only [r1, h3, h4]
    have hle : ((((t, x) :: (xs ++ ys)).length : Nat) : Int) ≤ n := by simp only [List.length_cons]; simp at hl ⊢; omega
    rw [if_pos hle]
    by_cases hd0 : r.length ≤ n
    · rw [List.drop_eq_nil_of_le hd0, List.append_nil, List.take_of_length_le (by simp only [List.length_cons]; simp at hl ⊢; omega)]
    · have : (r.take n).length = n := by rw [List.length_take]; omega
      have hn' : ((t, x) :: (xs ++ ys)).length = n := by simp only [List.length_cons]; omega
      show (t, x) :: (xs ++ ys) = List.take n (((t, x) :: (xs ++ ys)) ++ r.drop n)
      rw [List.take_append_of_le_length (by omega), List.take_of_length_le (by omega)]
  · have h3 : cutR t (r.take n) = r.take n := cutR_none ht
    have happ : ∀ a b, cutR t (a ++ b) = cutR t a ++ cutR t b := fun a b => by simp [cutR]
    have h4 : cutR t r = r.take n ++ cutR t (r.drop n) := by
      have := happ (r.take n) (r.drop n)
      rw [List.take_append_drop, h3] at this
      exact this
    simp only [r1, h3]
    cases n with
    | zero => simp
    | succ m =>
      rw [List.take_succ_cons, h4]
      by_cases hle : r.length ≤ m
      · rw [List.take_of_length_le (show r.length ≤ m + 1 by omega), List.drop_eq_nil_of_le (by omega), if_pos (by simp only [List.length_cons]; omega)]
        simp [cutR, List.take_of_length_le hle]
      · have hl : (r.take (m + 1)).length = m + 1 := by rw [List.length_take]; omega
        rw [if_neg (by simp only [List.length_cons, hl]; omega), List.take_append_of_le_length (by omega), List.take_take, Nat.min_eq_left (by omega)]
        rw [List.dropLast_cons_of_ne_nil (by intro h; rw [h] at hl; simp at hl), List.dropLast_eq_take, hl, List.take_take]
        congr 2
        omega
theorem prs_dropLast (es : List Ent) : (prs es).dropLast = prs es.dropLast := by simp [prs]
/-- Cutting the last of unlike ones drops it. -/
theorem cutE_last {es : List Ent} (hn : (es.map (·.t)).Nodup) (hne : es ≠ []) : cutE (lastT es) es = es.dropLast := by
  rcases List.eq_nil_or_concat es with rfl | ⟨ys, z, rfl⟩
  · exact absurd rfl hne
  · rw [List.concat_eq_append] at hn ⊢
    have hl : lastT (ys ++ [z]) = z.t := by simp [lastT]
    rw [hl, List.dropLast_concat]
    simp only [List.map_append, List.map_cons, List.map_nil] at hn
    have h1 := (List.nodup_append.1 hn).2.2
    have h2 : cutE z.t ys = ys := findE_none (by
      simp only [findE, List.find?_eq_none, decide_eq_true_eq]
      intro y hy e
      exact h1 y.t (List.mem_map.2 ⟨y, hy, rfl⟩) z.t (by simp) e)
    simp only [cutE, List.filter_append] at h2 ⊢
    rw [h2]
    simp
theorem up_filter (t : Tup) (r : List (Tup × Nat)) : up (r.filter fun e => !decide (e.1 = t)) = cutR t (up r) := by
  simp only [up, cutR, List.filter_map]
  rfl
theorem up_map (r : List (Tup × Nat)) : (up r).map (·.1) = r.map (·.1) := by simp [up]
/-- What Put leaves: the entries are the first n of the unlike ones. -/
theorem put_take {l : List Tup} {k n p : Nat} {es : List Ent} (h : prs es = (up (U l k)).take n) (hn : ((⟨tl l k, k, p⟩ :: cutE (tl l k) es : List Ent).map (·.t)).Nodup) : prs (putE n (⟨tl l k, k, p⟩ :: cutE (tl l k) es)).2.2 = (up (U l (k + 1))).take n := by
  have h1 := take_put (t := tl l k) (x := (k : Int)) (r := up (U l k)) (by rw [up_map]; exact U_nodup l k) n
  have h2 : prs (⟨tl l k, k, p⟩ :: cutE (tl l k) es) = (tl l k, (k : Int)) :: cutR (tl l k) ((up (U l k)).take n) := by
    rw [← h, ← prs_cut]; rfl
  have h3 : up (U l (k + 1)) = (tl l k, (k : Int)) :: cutR (tl l k) (up (U l k)) := by
    rw [← up_filter]; rfl
  rw [h3, ← h1]
  have hlen : (⟨tl l k, k, p⟩ :: cutE (tl l k) es : List Ent).length = ((tl l k, (k : Int)) :: cutR (tl l k) ((up (U l k)).take n)).length := by rw [← h2]; simp [prs]
  unfold putE
  rw [hlen]
  by_cases hle : ((((tl l k, (k : Int)) :: cutR (tl l k) ((up (U l k)).take n)).length : Nat) : Int) ≤ n
  · rw [if_pos hle, if_pos hle]
    exact h2
  · rw [if_neg hle, if_neg hle]
    show prs (cutE _ _) = _
    rw [cutE_last hn (by simp), ← prs_dropLast, h2]
/-- What is left of the unlike ones, once those of 'want' are there. -/
theorem want_step_in {l : List Tup} {j : Nat} {wl : List (Tup × Nat)} (h : U l (j + 1) = (tl l j, j) :: (U l j).filter fun e => !decide (e.1 = tl l j)) (hin : tl l j ∈ wl.map (·.1)) :
    (U l (j + 1)).filter (fun e => !decide (e.1 ∈ wl.map (·.1))) = (U l j).filter (fun e => !decide (e.1 ∈ wl.map (·.1))) := by
  rw [h, List.filter_cons, if_neg (by simpa using hin), List.filter_filter]
  refine List.filter_congr (fun e he => ?_)
  by_cases h1 : e.1 = tl l j
  · rw [h1]; simp only [decide_true, Bool.not_true, Bool.and_false]
    simpa using hin
  · simp [h1]
theorem want_step_out {l : List Tup} {j : Nat} {wl : List (Tup × Nat)} (hout : tl l j ∉ wl.map (·.1)) :
    (U l (j + 1)).filter (fun e => !decide (e.1 ∈ wl.map (·.1))) = (tl l j, j) :: (U l j).filter (fun e => !decide (e.1 ∈ (wl ++ [(tl l j, j)]).map (·.1))) := by
  show List.filter _ ((tl l j, j) :: (U l j).filter fun e => !decide (e.1 = tl l j)) = _
  rw [List.filter_cons, if_pos (by simpa using hout), List.filter_filter]
  congr 1
  refine List.filter_congr (fun e he => ?_)
  by_cases h1 : e.1 = tl l j
  · simp [h1]
  · simp [h1]
end Go.Proofs.Ytdfhcjhhjjbpoaa
