/- The contracts of the reference's functions: Has, Weight, At, Same. -/
import Derived.Test.YthcmhegbmpnepaaOf
namespace Go.Proofs.Ythcmhegbmpnepaa
open Go.RowKit

theorem has_of_v {l : List B} {i : Int} {k : Nat} (h : pidV l i = k) : hasB l i = true := by
  unfold pidV at h; unfold hasB
  split at h
  · simpa using by assumption
  · omega
theorem has_of_n {l : List B} {i : Int} (h : pidV l i = -1) : hasB l i = false := by
  unfold pidV at h; unfold hasB
  split at h
  · omega
  · simp; omega
theorem rhas_is (v : Value) (l : List B) (i : Int) (w : World) (h : SL w v l) (ht : l.length ≤ 64) : Calls Try.prog 15 #[v, .int .i64 i] w fun x w' => x = .returned (.bool (hasB l i)) ∧ Gn w w' := by
  rcases h with ⟨rfl, rfl⟩ | ⟨b, off, cap, rfl, hb, hc⟩
  · go_enter Try.func15, Try.ntmps15
    go_wp2
    go_loop [5] (fun i => i = .int .i64 0) (fun _ => 0)
    case atStart => rfl
    case round =>
      subst hrel
      go_wp2
      go_ret
      exact ⟨rfl, (by repeat (first | exact Gn.refl _ | refine Gn.gr ?_ _ | refine Gn.alloc ?_ _))⟩
  · go_enter Try.func15, Try.ntmps15
    go_wp2
    go_loopw [5] (fun x wr => ∃ (k : Nat), k ≤ l.length ∧ x = .int .i64 k ∧ Gn w wr ∧ pid l i = k + pid (l.drop k) i) (fun i _ => l.length - (intOf i).toNat)
    case atStart => exact ⟨0, by omega, rfl, (by repeat (first | exact Gn.refl _ | refine Gn.gr ?_ _ | refine Gn.alloc ?_ _)), by simp⟩
    case round =>
      obtain ⟨k, hk, rfl, ⟨p, rfl⟩, hp⟩ := hrel
      have hck := hc k
      clear hc
      have HP : Hid _ := hp
      clear hp
      go_wp2
      · go_ret
        have hid : (el l k).id = i := by simpa using (show ((el l k).id == i) = true by assumption)
        exact ⟨bool_ret (has_of_v (pid_hit (by assumption) HP.out hid)).symm, (by repeat (first | exact Gn.refl _ | refine Gn.gr ?_ _ | refine Gn.alloc ?_ _))⟩
      · have hlt : k < l.length := by assumption
        have hid : ¬ (el l k).id = i := by simpa using (show ((el l k).id == i) = false by assumption)
        go_roundw
        case rel => exact ⟨k + 1, by omega, by go_num, (by repeat (first | exact Gn.refl _ | refine Gn.gr ?_ _ | refine Gn.alloc ?_ _)), pid_next hlt HP.out hid⟩
        case measure => simp [intOf]; omega
      · have hge : k = l.length := by omega
        subst hge
        go_ret
        exact ⟨bool_ret (has_of_n (pid_end HP.out)).symm, (by repeat (first | exact Gn.refl _ | refine Gn.gr ?_ _ | refine Gn.alloc ?_ _))⟩

theorem rweight_is (v : Value) (l : List B) (w : World) (h : SL w v l) (ht : Tame l) : Calls Try.prog 16 #[v] w fun e w' => e = .returned (.int .i64 (sumW l)) ∧ Gn w w' := by
  rcases h with ⟨rfl, rfl⟩ | ⟨b, off, cap, rfl, hb, hc⟩
  · go_enter Try.func16, Try.ntmps16
    go_wp2
    go_loop [3, 4] (fun s i => s = .int .i64 0 ∧ i = .int .i64 0) (fun _ _ => 0)
    case atStart => exact ⟨rfl, rfl⟩
    case round =>
      obtain ⟨rfl, rfl⟩ := hrel
      go_wp2
      go_ret
      exact ⟨rfl, (by repeat (first | exact Gn.refl _ | refine Gn.gr ?_ _ | refine Gn.alloc ?_ _))⟩
  · have hl := ht.1
    go_enter Try.func16, Try.ntmps16
    go_wp2
    go_loopw [3, 4] (fun s i wr => ∃ (k : Nat), k ≤ l.length ∧ i = .int .i64 k ∧ s = .int .i64 (sumW (l.take k)) ∧ Gn w wr) (fun _ i _ => l.length - (intOf i).toNat)
    case atStart => exact ⟨0, by omega, rfl, rfl, (by repeat (first | exact Gn.refl _ | refine Gn.gr ?_ _ | refine Gn.alloc ?_ _))⟩
    case round =>
      obtain ⟨k, hk, rfl, rfl, p, rfl⟩ := hrel
      have hs := ht.sum k hk
      have hs1 := fun h : k < l.length => ht.2 _ (el_mem h)
      have hck := hc k
      go_wp2
      · have hlt : k < l.length := by assumption
        go_roundw
        case rel => exact ⟨k + 1, by omega, by go_num, by rw [take_el hlt, sumW_append]; simp [sumW], (by repeat (first | exact Gn.refl _ | refine Gn.gr ?_ _ | refine Gn.alloc ?_ _))⟩
        case measure => simp [intOf]; omega
      · have hge : k = l.length := by omega
        subst hge
        go_ret
        exact ⟨int_ret (by rw [List.take_length]), (by repeat (first | exact Gn.refl _ | refine Gn.gr ?_ _ | refine Gn.alloc ?_ _))⟩

theorem at_zero {l : List B} {n : Int} (h : ¬ (0 ≤ n ∧ pos l n < l.length)) : atB l n = B0 ∧ atOk l n = false := by
  unfold atB atOk
  rw [if_neg h]
  exact ⟨rfl, by simpa using h⟩
theorem at_hit {l : List B} {k : Nat} {n s : Int} (hk : k < l.length) (hp : pos l n = k + pos (l.drop k) (n - s)) (h0 : 0 ≤ s) (h1 : 0 ≤ n - s) (h2 : n - s < (el l k).wt) : atB l n = el l k ∧ atOk l n = true := by
  rw [drop_el hk, pos, if_pos h2] at hp
  have hp' : pos l n = k := by omega
  unfold atB atOk
  rw [hp', if_pos ⟨by omega, hk⟩]
  exact ⟨rfl, by simp; omega⟩
theorem rat_is (v : Value) (l : List B) (n : Int) (w : World) (h : SL w v l) (ht : Tame l) (hn : -9223372036854775808 ≤ n ∧ n ≤ 9223372036854775807) : Calls Try.prog 12 #[v, .int .i64 n] w fun y w' => y = .returned (.tuple #[(atB l n).val, .bool (atOk l n)]) ∧ Gn w w' := by
  rcases h with ⟨rfl, rfl⟩ | ⟨b, off, cap, rfl, hb, hc⟩
  · have e1 : atB [] n = B0 := by simp [atB, pos]
    have e2 : atOk [] n = false := by simp [atOk, pos]
    rw [e1, e2]
    unfold B0 B.val
    go_enter Try.func12, Try.ntmps12
    go_wp2
    go_loop [1, 6] (fun x i => x = .int .i64 n ∧ i = .int .i64 0) (fun _ _ => 0)
    case atStart => exact ⟨rfl, rfl⟩
    case round =>
      obtain ⟨rfl, rfl⟩ := hrel
      go_wp2
      exact bodyPost_ret (v := .tuple #[.agg #[.int .i64 0, .int .i64 0, .int .i64 0, .bool false, .int .u64 0, .int .u64 0], .bool false]) (by simp [results, Try.results12, go_sem]) rfl ⟨rfl, (by repeat (first | exact Gn.refl _ | refine Gn.gr ?_ _ | refine Gn.alloc ?_ _))⟩
  · have hl := ht.1
    go_enter Try.func12, Try.ntmps12
    go_wp2
    go_loopw [1, 6] (fun x i wr => ∃ (k : Nat), k ≤ l.length ∧ i = .int .i64 k ∧ x = .int .i64 (n - sumW (l.take k)) ∧ (0 ≤ n → 0 ≤ n - sumW (l.take k)) ∧ (n < 0 → k = 0) ∧ Gn (w.alloc (.cells #[.int .i64 0, .int .i64 0, .int .i64 0, .bool false, .int .u64 0, .int .u64 0] 29)) wr ∧ pos l n = k + pos (l.drop k) (n - sumW (l.take k))) (fun _ i _ => l.length - (intOf i).toNat)
    case atStart => exact ⟨0, by omega, rfl, by simp [sumW], by simp [sumW], fun _ => rfl, Gn.refl _, by simp [sumW]⟩
    case round =>
      obtain ⟨k, hk, rfl, rfl, h0, h1, ⟨p, rfl⟩, hp⟩ := hrel
      have hs := ht.sum k hk
      have hs1 := fun h : k < l.length => ht.2 _ (el_mem h)
      have hck := hc k
      have HP : Hid _ := hp
      clear hp
      go_wp2
      · have hlt : k < l.length := by assumption
        obtain ⟨q1, q2⟩ := at_hit hlt HP.out (by omega) (by omega) (by omega)
        rw [q1, q2]
        exact bodyPost_ret (v := .tuple #[(el l k).val, .bool true]) (by simp [results, Try.results12, go_sem, B.val]) rfl ⟨rfl, (by repeat (first | exact Gn.refl _ | refine Gn.gr ?_ _ | refine Gn.alloc ?_ _))⟩
      · have hlt : k < l.length := by assumption
        go_roundw
        case rel => exact ⟨k + 1, by omega, by go_num, by rw [sum_take hlt]; congr 1; omega, by rw [sum_take hlt]; omega, by omega, (by repeat (first | exact Gn.refl _ | refine Gn.gr ?_ _ | refine Gn.alloc ?_ _)), by rw [sum_take hlt]; exact pos_next hlt HP.out (by omega)⟩
        case measure => simp [intOf]; omega
      · obtain ⟨q1, q2⟩ := at_zero (l := l) (n := n) (by omega)
        rw [q1, q2]
        exact bodyPost_ret (v := .tuple #[B0.val, .bool false]) (by simp [results, Try.results12, go_sem, B.val, B0]) rfl ⟨rfl, (by repeat (first | exact Gn.refl _ | refine Gn.gr ?_ _ | refine Gn.alloc ?_ _))⟩
      · have hge : k = l.length := by omega
        subst hge
        have := HP.out
        obtain ⟨q1, q2⟩ := at_zero (l := l) (n := n) (by omega)
        rw [q1, q2]
        exact bodyPost_ret (v := .tuple #[B0.val, .bool false]) (by simp [results, Try.results12, go_sem, B.val, B0]) rfl ⟨rfl, (by repeat (first | exact Gn.refl _ | refine Gn.gr ?_ _ | refine Gn.alloc ?_ _))⟩
end Go.Proofs.Ythcmhegbmpnepaa
