/- The contracts of beyond and Diff. -/
import Derived.Test.YthcmhegbmpnepaaRefC
namespace Go.Proofs.Ythcmhegbmpnepaa
open Go.RowKit

set_option maxHeartbeats 1600000 in
theorem beyond_is (v u : Value) (l m : List B) (x z : Int) (w : World) (h : SL w v l) (hu : SL w u m) (ht : l.length ≤ 64) (hm : m.length ≤ 64) :
    Calls Try.prog 24 #[.agg #[.int .i64 x, v], .agg #[.int .i64 z, u]] w fun y w' => ∃ v', y = .returned v' ∧ IL w' v' (ids l m) ∧ Gn w w' := by
  rcases h with ⟨rfl, rfl⟩ | ⟨b, off, cap, rfl, hb, hc⟩
  · go_enter Try.func24, Try.ntmps24
    go_wp2
    go_loop [5, 11] (fun u i => u = .slice none 0 0 ∧ i = .int .i64 0) (fun _ _ => 0)
    case atStart => exact ⟨rfl, rfl⟩
    case round =>
      obtain ⟨rfl, rfl⟩ := hrel
      go_wp2
      go_ret
      exact ⟨_, rfl, .inl ⟨rfl, rfl⟩, (by repeat (first | exact Gn.refl _ | refine Gn.gr ?_ _ | refine Gn.alloc ?_ _))⟩
  · obtain ⟨i0, hi, hz0, hz1, hz2⟩ := info_parts info_int
    go_enter Try.func24, Try.ntmps24
    go_wp2
    go_loopw [5, 11] (fun s i wr => ∃ k : Nat, k ≤ l.length ∧ i = .int .i64 k ∧ wr.ownsRow (w.heap.size + 2) 3 1 s (ids (l.take k) m).length (ints (ids (l.take k) m)) ∧
      Gn ((w.alloc (.cells #[.int .i64 x, .slice (some ⟨b, off, none⟩) l.length cap] 31)).alloc (.cells #[.int .i64 z, u] 31)) wr) (fun _ i _ => l.length - (intOf i).toNat)
    case atStart => exact ⟨0, by omega, rfl, World.ownsRow_nil _ _ _ _, Gn.refl _⟩
    case round =>
      obtain ⟨k, hk, rfl, hown, p, rfl⟩ := hrel
      obtain ⟨o5, n5, c5, rfl⟩ : ∃ o n c, u5 = .slice o n c := by
        rcases hown.2 with ⟨rfl, _⟩ | ⟨_, _, _, rfl, _⟩ <;> exact ⟨_, _, _, rfl⟩
      have hck := hc k
      have hfl := ids_len l m k
      have HC : Hid (∀ w' : World, Gn w w' → _) := fun w' hg => has_is u m z (el l k).id w' (hu.grown hg) hm
      go_wp2_with (first
        | (go_at_call 10; refine (HC.out _ (by repeat (first | exact Gn.refl _ | refine Gn.gr ?_ _ | refine Gn.alloc ?_ _))).mono ?_; rintro y w' ⟨rfl, q, rfl⟩)
        | (at_builtin; refine wpList_append_own _ rfl _ _ 34 rfl (w.heap.size + 2) 3 i0 (.int .i64 0) 1 8 Try.underlying34 hi hz0 hz1 hz2 rfl (by decide) _ _ _ rfl (own_gn hown (by repeat (first | exact Gn.refl _ | refine Gn.gr ?_ _ | refine Gn.alloc ?_ _))) ⟨_, 0, none⟩ 1 1 [.int .i64 (el l k).id] rfl rfl ?c1 ?c2 ?c3 ?c4 ?c5 ?_))
      case c1 =>
        intro j u hj
        exact row_int _ _ _ _ _ (by simp only [size_gr, size_alloc, Array.size_append]) hj
      case c2 => intro u hu; simp at hu; rcases hu with rfl; rfl
      case c3 => unfold maxLen; omega
      case c4 => omega
      case c5 => simp only [size_gr, size_alloc, Array.size_append]; omega
      · intro v' w1 hown' hgrow _
        have hlt : k < l.length := by assumption
        have hok : hasB m (el l k).id = false := by simpa using (show (!hasB m (el l k).id) = true by assumption)
        have hl := hown.lt
        have e1 := ids_take (m := m) hlt
        rw [hok, if_neg (by simp)] at e1
        have hg1 : Gn ((w.alloc (.cells #[.int .i64 x, .slice (some ⟨b, off, none⟩) l.length cap] 31)).alloc (.cells #[.int .i64 z, u] 31)) w1 :=
          Gn.grown (by repeat (first | exact Gn.refl _ | refine Gn.gr ?_ _ | refine Gn.alloc ?_ _)) hgrow (fun b hb => by simp only [size_alloc]; exact (hl b hb).1)
        have ho1 : w1.ownsRow (w.heap.size + 2) 3 1 v' (ids (l.take (k + 1)) m).length (ints (ids (l.take (k + 1)) m)) := by
          rw [e1, List.length_append, ints_append]
          exact hown'
        clear hown' hgrow hown hl e1
        go_wp2
        go_roundw
        case rel => exact ⟨k + 1, by omega, by go_num, ho1, hg1⟩
        case measure => simp [intOf]; omega
      · have hlt : k < l.length := by assumption
        have hok : hasB m (el l k).id = true := by simpa using (show (!hasB m (el l k).id) = false by assumption)
        have e1 := ids_take (m := m) hlt
        rw [hok, if_pos rfl, List.append_nil] at e1
        go_roundw
        case rel => exact ⟨k + 1, by omega, by go_num, by rw [e1]; exact own_gn hown (by repeat (first | exact Gn.refl _ | refine Gn.gr ?_ _ | refine Gn.alloc ?_ _)), (by repeat (first | exact Gn.refl _ | refine Gn.gr ?_ _ | refine Gn.alloc ?_ _))⟩
        case measure => simp [intOf]; omega
      · have hge : k = l.length := by omega
        subst hge
        rw [List.take_length] at hown
        go_ret
        exact ⟨_, rfl, IL.of_own hown, (by repeat (first | exact Gn.refl _ | refine Gn.gr ?_ _ | refine Gn.alloc ?_ _))⟩

end Go.Proofs.Ythcmhegbmpnepaa
