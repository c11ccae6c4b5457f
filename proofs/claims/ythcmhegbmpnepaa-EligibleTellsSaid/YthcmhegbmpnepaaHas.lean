/- The contracts of with, ContainsFunc, Has. -/
import Derived.Test.YthcmhegbmpnepaaIx
import Derived.Deep.RegionWith
namespace Go.Proofs.Ythcmhegbmpnepaa
open Go.RowKit

/-- The place of the backend with an ID. -/
def pid : List B → Int → Nat
  | [], _ => 0
  | b :: l, i => if b.id = i then 0 else pid l i + 1
def hasB (l : List B) (i : Int) : Bool := decide (pid l i < l.length)
def pidV (l : List B) (i : Int) : Int := if pid l i < l.length then pid l i else -1
theorem pid_hit {l : List B} {k : Nat} {i : Int} (hk : k < l.length) (hp : pid l i = k + pid (l.drop k) i) (h : (el l k).id = i) : pidV l i = k := by
  rw [drop_el hk, pid, if_pos h] at hp
  unfold pidV
  rw [hp, if_pos (by omega)]
  simp
theorem pid_next {l : List B} {k : Nat} {i : Int} (hk : k < l.length) (hp : pid l i = k + pid (l.drop k) i) (h : ¬ (el l k).id = i) : pid l i = k + 1 + pid (l.drop (k + 1)) i := by
  rw [drop_el hk, pid, if_neg h] at hp
  omega
theorem pid_end {l : List B} {i : Int} (hp : pid l i = l.length + pid (l.drop l.length) i) : pidV l i = -1 := by
  unfold pidV
  rw [if_neg (by omega)]
theorem hasB_eq (l : List B) (i : Int) : hasB l i = l.any fun b => b.id == i := by
  induction l with
  | nil => rfl
  | cons b l ih =>
    unfold hasB at *
    by_cases h : b.id = i
    · simp [pid, h]
    · simp only [pid, h, if_false, List.length_cons, List.any_cons]
      rw [← ih]
      simp [h]

theorem with1_is (b : B) (m : Nat) (i : Int) (w : World) (hm : w.cell? ⟨m, 0, none⟩ = some (.int .i64 i)) :
    Calls Try.prog 25 #[b.val, .pointer (some ⟨m, 0, none⟩)] w fun x w' => x = .returned (.bool (b.id == i)) ∧ Gn w w' := by
  have c4 : m < w.heap.size := World.block_lt_of_cell? w _ hm
  unfold B.val
  go_enter Try.func25, Try.ntmps25
  go_wp2
  go_ret
  exact ⟨rfl, by repeat (first | exact Gn.refl _ | refine Gn.gr ?_ _ | refine Gn.alloc ?_ _)⟩

set_option maxHeartbeats 1000000 in
theorem ixW_is (v : Value) (l : List B) (m : Nat) (i : Int) (w : World) (h : SL w v l) (ht : l.length ≤ 64) (hm : w.cell? ⟨m, 0, none⟩ = some (.int .i64 i)) :
    Calls Try.prog 20 #[v, .func (.func 25) #[] #[.pointer (some ⟨m, 0, none⟩)]] w fun x w' => x = .returned (.int .i64 (pidV l i)) ∧ Gn w w' := by
  have hml : m < w.heap.size := World.block_lt_of_cell? w _ hm
  rcases h with ⟨rfl, rfl⟩ | ⟨b, off, cap, rfl, hb, hc⟩
  · go_enter Try.func20, Try.ntmps20
    go_wp2
    go_loop [8] (fun i => i = .int .i64 0) (fun _ => 0)
    case atStart => rfl
    case round =>
      subst hrel
      go_wp2
      go_ret
      exact ⟨rfl, by repeat (first | exact Gn.refl _ | refine Gn.gr ?_ _ | refine Gn.alloc ?_ _)⟩
  · go_enter Try.func20, Try.ntmps20
    go_wp2
    go_loopw [8] (fun x wr => ∃ (k : Nat), k ≤ l.length ∧ x = .int .i64 k ∧ Gn w wr ∧ pid l i = k + pid (l.drop k) i) (fun i _ => l.length - (intOf i).toNat)
    case atStart => exact ⟨0, by omega, rfl, by repeat (first | exact Gn.refl _ | refine Gn.gr ?_ _ | refine Gn.alloc ?_ _), by simp⟩
    case round =>
      obtain ⟨k, hk, rfl, ⟨p, rfl⟩, hp⟩ := hrel
      have hck := hc k
      have hmm : (w.gr p).cell? ⟨m, 0, none⟩ = some (Value.int .i64 i) := (cell?_gr w p m 0 hml).trans hm
      clear hc
      have HP : Hid _ := hp
      clear hp
      go_wp2_with (go_at_call 25; refine (with1_is (el l k) m _ _ hmm).mono ?_; rintro x w' ⟨rfl, q, rfl⟩)
      · go_ret
        have hid : (el l k).id = i := by simpa using (show ((el l k).id == i) = true by assumption)
        exact ⟨int_ret (pid_hit (by assumption) HP.out hid).symm, by repeat (first | exact Gn.refl _ | refine Gn.gr ?_ _ | refine Gn.alloc ?_ _)⟩
      · have hlt : k < l.length := by assumption
        have hid : ¬ (el l k).id = i := by simpa using (show ((el l k).id == i) = false by assumption)
        go_roundw
        case rel => exact ⟨k + 1, by omega, by go_num, by repeat (first | exact Gn.refl _ | refine Gn.gr ?_ _ | refine Gn.alloc ?_ _), pid_next hlt HP.out hid⟩
        case measure => simp [intOf]; omega
      · have hge : k = l.length := by omega
        subst hge
        go_ret
        exact ⟨int_ret (pid_end HP.out).symm, by repeat (first | exact Gn.refl _ | refine Gn.gr ?_ _ | refine Gn.alloc ?_ _)⟩

theorem contains_is (v : Value) (l : List B) (m : Nat) (i : Int) (w : World) (h : SL w v l) (ht : l.length ≤ 64) (hm : w.cell? ⟨m, 0, none⟩ = some (.int .i64 i)) :
    Calls Try.prog 22 #[v, .func (.func 25) #[] #[.pointer (some ⟨m, 0, none⟩)]] w fun x w' => x = .returned (.bool (hasB l i)) ∧ Gn w w' := by
  go_enter Try.func22, Try.ntmps22
  go_wp2_with (go_at_call 20; refine (ixW_is _ l _ i _ h ht hm).mono ?_; rintro x w' ⟨rfl, q, rfl⟩)
  go_ret
  refine ⟨bool_ret ?_, by repeat (first | exact Gn.refl _ | refine Gn.gr ?_ _ | refine Gn.alloc ?_ _)⟩
  unfold pidV hasB
  split <;> simp [*]

theorem with_is (i : Int) (w : World) : Calls Try.prog 23 #[.int .i64 i] w fun x w' => x = .returned (.func (.func 25) #[] #[.pointer (some ⟨w.heap.size, 0, none⟩)]) ∧ ∃ p : Gr, w' = (w.alloc (.cells #[.int .i64 i] 3)).gr p := by
  go_enter Try.func23, Try.ntmps23
  go_wp2
  go_ret
  exact ⟨rfl, ⟨w.drawn, #[]⟩, by unfold World.gr World.alloc; simp⟩

theorem has_is (v : Value) (l : List B) (x i : Int) (w : World) (h : SL w v l) (ht : l.length ≤ 64) : Calls Try.prog 10 #[.agg #[.int .i64 x, v], .int .i64 i] w fun y w' => y = .returned (.bool (hasB l i)) ∧ Gn w w' := by
  have h1 := h.grown (Gn.refl w |>.alloc (.cells #[.int .i64 x, v] 31) |>.alloc (.cells #[.int .i64 i] 3))
  have hm : Box ((w.alloc (.cells #[.int .i64 x, v] 31)).alloc (.cells #[.int .i64 i] 3)) (w.heap.size + 1) 3 (.int .i64 i) := by
    have := box_new (w.alloc (.cells #[.int .i64 x, v] 31)) 3 (.int .i64 i)
    simpa only [size_alloc] using this
  have HC : Hid (∀ p : Gr, _) := fun p => contains_is v l (w.heap.size + 1) i _ (h1.grown ⟨p, rfl⟩) ht (hm.gr p).cell
  clear hm h1 h
  go_enter Try.func10, Try.ntmps10
  go_wp2
  go_region_with (first | (go_at_call 23; refine (with_is _ _).mono ?_; rintro y w' ⟨rfl, p, rfl⟩) | (go_at_call 22; refine (HC.out _).mono ?_; rintro y w' ⟨rfl, p, rfl⟩))
  all_goals (go_wp2; go_ret; exact ⟨rfl, by repeat (first | exact Gn.refl _ | refine Gn.gr ?_ _ | refine Gn.alloc ?_ _)⟩)
end Go.Proofs.Ythcmhegbmpnepaa
