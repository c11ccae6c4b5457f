/- The contracts of Same (two slices of one content) and of the reference's Of. -/
import Derived.Test.YthcmhegbmpnepaaOf
namespace Go.Proofs.Ythcmhegbmpnepaa
open Go.RowKit

set_option maxHeartbeats 1600000 in
theorem rof_is (v : Value) (l : List B) (w : World) (h : SL w v l) (ht : l.length ≤ 64) :
    Calls Try.prog 11 #[v] w fun y w' => ∃ v', y = .returned v' ∧ SL w' v' (l.filter ok) ∧ Gn w w' := by
  rcases h with ⟨rfl, rfl⟩ | ⟨b, off, cap, rfl, hb, hc⟩
  · go_enter Try.func11, Try.ntmps11
    go_wp2
    go_loop [3, 4] (fun u i => u = .slice none 0 0 ∧ i = .int .i64 0) (fun _ _ => 0)
    case atStart => exact ⟨rfl, rfl⟩
    case round =>
      obtain ⟨rfl, rfl⟩ := hrel
      go_wp2
      go_ret
      exact ⟨_, rfl, .inl ⟨rfl, rfl⟩, (by repeat (first | exact Gn.refl _ | refine Gn.gr ?_ _ | refine Gn.alloc ?_ _))⟩
  · obtain ⟨i0, hi, hz0, hz1, hz2⟩ := info_parts info29
    go_enter Try.func11, Try.ntmps11
    go_wp2
    go_loopw [3, 4] (fun u i wr => ∃ k : Nat, k ≤ l.length ∧ i = .int .i64 k ∧ wr.ownsRow w.heap.size 29 6 u ((l.take k).filter ok).length (cellsOf ((l.take k).filter ok)) ∧ Gn w wr) (fun _ i _ => l.length - (intOf i).toNat)
    case atStart => exact ⟨0, by omega, rfl, World.ownsRow_nil _ _ _ _, Gn.refl _⟩
    case round =>
      obtain ⟨k, hk, rfl, hown, p, rfl⟩ := hrel
      obtain ⟨o5, n5, c5, rfl⟩ : ∃ o n c, u3 = .slice o n c := by
        rcases hown.2 with ⟨rfl, _⟩ | ⟨_, _, _, rfl, _⟩ <;> exact ⟨_, _, _, rfl⟩
      have hck := hc k
      have hfl := filt_len l k
      go_wp2_with (first
        | (at_builtin; refine wpList_append_own _ rfl _ _ 22 rfl w.heap.size 29 i0 B0.val 6 48 Try.underlying22 hi hz0 hz1 hz2 rfl (by decide) _ _ _ rfl (own_gn hown (by repeat (first | exact Gn.refl _ | refine Gn.gr ?_ _ | refine Gn.alloc ?_ _))) ⟨_, 0, none⟩ 1 1 (el l k).cells rfl rfl ?c1 ?c2 ?c3 ?c4 ?c5 ?_))
      case c1 =>
        intro j u hj
        have hst : (el l k).st = 1 := by assumption
        have := row_new (w.gr p) (el l k) (w.gr p).heap.size j u rfl hj
        rw [hst] at this
        simpa only [size_gr] using this
      case c2 => intro u hu; simp [B.cells] at hu; rcases hu with rfl | rfl | rfl | rfl | rfl | rfl <;> rfl
      case c3 => unfold maxLen; omega
      case c4 => omega
      case c5 => simp only [size_gr, size_alloc]; omega
      · intro v' w1 hown' hgrow _
        have hlt : k < l.length := by assumption
        have hst : (el l k).st = 1 := by assumption
        have hwt : 1 ≤ (el l k).wt := by assumption
        have hok : ok (el l k) = true := by simp [ok, hst]; omega
        have hl := hown.lt
        have e1 := filt_take hlt
        rw [hok, if_pos rfl] at e1
        have hg1 : Gn w w1 := Gn.grown (by repeat (first | exact Gn.refl _ | refine Gn.gr ?_ _ | refine Gn.alloc ?_ _)) hgrow (fun b hb => (hl b hb).1)
        have ho1 : w1.ownsRow w.heap.size 29 6 v' ((l.take (k + 1)).filter ok).length (cellsOf ((l.take (k + 1)).filter ok)) := by
          rw [e1, List.length_append, cellsOf_append]
          exact hown'
        clear hown' hgrow hown hl e1
        go_wp2
        go_roundw
        case rel => exact ⟨k + 1, by omega, by go_num, ho1, hg1⟩
        case measure => simp [intOf]; omega
      · have hlt : k < l.length := by assumption
        have hok : ok (el l k) = false := by
          have h1 : (el l k).wt < 1 := by assumption
          simp [ok]
          intro _
          omega
        have e1 := filt_take hlt
        rw [hok, if_neg (by simp), List.append_nil] at e1
        go_roundw
        case rel => exact ⟨k + 1, by omega, by go_num, by rw [e1]; exact own_gn hown (by repeat (first | exact Gn.refl _ | refine Gn.gr ?_ _ | refine Gn.alloc ?_ _)), (by repeat (first | exact Gn.refl _ | refine Gn.gr ?_ _ | refine Gn.alloc ?_ _))⟩
        case measure => simp [intOf]; omega
      · have hlt : k < l.length := by assumption
        have hok : ok (el l k) = false := by
          have h1 : ¬ (el l k).st = 1 := by assumption
          simp [ok, h1]
        have e1 := filt_take hlt
        rw [hok, if_neg (by simp), List.append_nil] at e1
        go_roundw
        case rel => exact ⟨k + 1, by omega, by go_num, by rw [e1]; exact own_gn hown (by repeat (first | exact Gn.refl _ | refine Gn.gr ?_ _ | refine Gn.alloc ?_ _)), (by repeat (first | exact Gn.refl _ | refine Gn.gr ?_ _ | refine Gn.alloc ?_ _))⟩
        case measure => simp [intOf]; omega
      · have hge : k = l.length := by omega
        subst hge
        rw [List.take_length] at hown
        go_ret
        exact ⟨_, rfl, SL.of_own hown, (by repeat (first | exact Gn.refl _ | refine Gn.gr ?_ _ | refine Gn.alloc ?_ _))⟩

/-- Two slices of one content are the same. -/
theorem same_is (v v' : Value) (l : List B) (w : World) (h : SL w v l) (h' : SL w v' l) (ht : l.length ≤ 64) : Calls Try.prog 14 #[v, v'] w fun y w' => y = .returned (.bool true) ∧ Gn w w' := by
  rcases h with ⟨rfl, rfl⟩ | ⟨b, off, cap, rfl, hb, hc⟩
  · rcases h' with ⟨_, rfl⟩ | ⟨b', off', cap', rfl, hb', hc'⟩
    all_goals
      go_enter Try.func14, Try.ntmps14
      go_wp2
      go_loop [5] (fun i => i = .int .i64 0) (fun _ => 0)
      case atStart => rfl
      case round =>
        subst hrel
        go_wp2
        go_ret
        exact ⟨rfl, (by repeat (first | exact Gn.refl _ | refine Gn.gr ?_ _ | refine Gn.alloc ?_ _))⟩
  · rcases h' with ⟨rfl, rfl⟩ | ⟨b', off', cap', rfl, hb', hc'⟩
    · go_enter Try.func14, Try.ntmps14
      go_wp2
      go_loop [5] (fun i => i = .int .i64 0) (fun _ => 0)
      case atStart => rfl
      case round =>
        subst hrel
        go_wp2
        go_ret
        exact ⟨rfl, (by repeat (first | exact Gn.refl _ | refine Gn.gr ?_ _ | refine Gn.alloc ?_ _))⟩
    · go_enter Try.func14, Try.ntmps14
      go_wp2
      go_loopw [5] (fun i wr => ∃ k : Nat, k ≤ l.length ∧ i = .int .i64 k ∧ Gn w wr) (fun i _ => l.length - (intOf i).toNat)
      case atStart => exact ⟨0, by omega, rfl, (by repeat (first | exact Gn.refl _ | refine Gn.gr ?_ _ | refine Gn.alloc ?_ _))⟩
      case round =>
        obtain ⟨k, hk, rfl, p, rfl⟩ := hrel
        by_cases hlt : k < l.length
        · obtain ⟨c0, c1, c2, c3, c4, c5⟩ := hc k hlt
          obtain ⟨d0, d1, d2, d3, d4, d5⟩ := hc' k hlt
          clear hc hc'
          have hi : (k : Int) < (l.length : Int) := by omega
          go_wp2
          refine wp_region_gr (by kernel_rfl) (by kernel_rfl) ?_
          repeat (go_big_quiet_step (fail))
          refine wpQuiet_nil ?_
          rintro _ ⟨q4, rfl⟩
          go_wp2
          go_roundw
          case rel => exact ⟨k + 1, by omega, by go_num, (by repeat (first | exact Gn.refl _ | refine Gn.gr ?_ _ | refine Gn.alloc ?_ _))⟩
          case measure => simp [intOf]; omega
        · have hge : k = l.length := by omega
          subst hge
          go_wp2
          go_ret
          exact ⟨rfl, (by repeat (first | exact Gn.refl _ | refine Gn.gr ?_ _ | refine Gn.alloc ?_ _))⟩
end Go.Proofs.Ythcmhegbmpnepaa
