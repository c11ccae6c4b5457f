/- The contracts of Without, beyond and SameInts: the numbers that one list has and another has not. -/
import Derived.Test.YthcmhegbmpnepaaRefA
import Derived.Test.YthcmhegbmpnepaaRefB
import Derived.Deep.RegionWith
namespace Go.Proofs.Ythcmhegbmpnepaa
open Go.RowKit

theorem info_int : (Try.prog.info? 3).map (fun i => (i.zero, i.size, i.bytes)) = some (some (.int .i64 0), 1, 8) := by kernel_rfl
def ints (l : List Int) : List Value := l.map (Value.int .i64)
theorem ints_append (l m : List Int) : ints (l ++ m) = ints l ++ ints m := by simp [ints]
def inAt (l : List Int) (k : Nat) : Int := l.getD k 0
/-- A slice value reads as a list of numbers. -/
def IL (w : World) (v : Value) (l : List Int) : Prop :=
  (l = [] ∧ v = .slice none 0 0) ∨ ∃ b cap, v = .slice (some ⟨b, 0, none⟩) l.length cap ∧ b < w.heap.size ∧ ∀ k, k < l.length → w.cell? ⟨b, k, none⟩ = some (.int .i64 (inAt l k))
theorem IL.grown {w w' : World} {v : Value} {l : List Int} (h : IL w v l) (hg : Gn w w') : IL w' v l := by
  rcases h with h | ⟨b, cap, rfl, hb, hc⟩
  · exact .inl h
  · obtain ⟨p, rfl⟩ := hg
    refine .inr ⟨b, cap, rfl, by rw [size_gr]; omega, fun k hk => ?_⟩
    rw [cell?_gr w p b _ hb]
    exact hc k hk
theorem IL.of_own {w : World} {base : Nat} {v : Value} {l : List Int} (h : w.ownsRow base 3 1 v l.length (ints l)) : IL w v l := by
  rcases h with ⟨h1, ⟨rfl, h2⟩ | ⟨g, cap, cur, rfl, hb, hg, hn, hm, hs, ht⟩⟩
  · exact .inl ⟨List.length_eq_zero_iff.1 h2, rfl⟩
  · refine .inr ⟨g, cap, rfl, lt_of_block hg, fun k hk => ?_⟩
    have h3 : (ints l)[k]? = some (.int .i64 (inAt l k)) := by simp [ints, inAt, hk]
    rw [← ht, List.getElem?_take] at h3
    rw [if_pos (by omega)] at h3
    simp only [World.cell?, hg]
    rw [← h3]
    simp
theorem row_int (W : World) (x : Int) (n j : Nat) (u : Value) (hn : n = W.heap.size) (hj : [Value.int .i64 x][j]? = some u) :
    (W.alloc (.cells #[.int .i64 x] 3)).cell? (Addr.add ⟨n, 0, none⟩ j) = some u := by
  subst hn
  have hadd : Addr.add ⟨W.heap.size, 0, none⟩ j = ⟨W.heap.size, j, none⟩ := by
    unfold Addr.add
    split <;> simp_all
  have : (W.alloc (.cells #[.int .i64 x] 3)).heap[W.heap.size]? = some (.cells #[.int .i64 x] 3) := by
    unfold World.alloc
    simp
  rw [hadd]
  simp only [World.cell?, this]
  rw [← hj]
  simp

def ids (l m : List B) : List Int := (l.filter fun x => !hasB m x.id).map B.id
theorem ids_take {l m : List B} {k : Nat} (h : k < l.length) : ids (l.take (k + 1)) m = ids (l.take k) m ++ (if hasB m (el l k).id then [] else [(el l k).id]) := by
  unfold ids
  rw [take_el h, List.filter_append, List.map_append]
  congr 1
  cases hb : hasB m (el l k).id <;> simp [List.filter_cons, hb]
theorem ids_len (l m : List B) (k : Nat) : (ids (l.take k) m).length ≤ k := by
  unfold ids
  rw [List.length_map]
  have := List.length_filter_le (fun x => !hasB m x.id) (l.take k)
  have h2 : (l.take k).length ≤ k := by rw [List.length_take]; omega
  omega

theorem sameints_is (v v' : Value) (l : List Int) (w : World) (h : IL w v l) (h' : IL w v' l) (ht : l.length ≤ 64) : Calls Try.prog 17 #[v, v'] w fun y w' => y = .returned (.bool true) ∧ Gn w w' := by
  rcases h with ⟨rfl, rfl⟩ | ⟨b, cap, rfl, hb, hc⟩
  · rcases h' with ⟨_, rfl⟩ | ⟨b', cap', rfl, hb', hc'⟩
    all_goals
      go_enter Try.func17, Try.ntmps17
      go_wp2
      go_loop [5] (fun i => i = .int .i64 0) (fun _ => 0)
      case atStart => rfl
      case round =>
        subst hrel
        go_wp2
        go_ret
        exact ⟨rfl, (by repeat (first | exact Gn.refl _ | refine Gn.gr ?_ _ | refine Gn.alloc ?_ _))⟩
  · rcases h' with ⟨rfl, rfl⟩ | ⟨b', cap', rfl, hb', hc'⟩
    · go_enter Try.func17, Try.ntmps17
      go_wp2
      go_loop [5] (fun i => i = .int .i64 0) (fun _ => 0)
      case atStart => rfl
      case round =>
        subst hrel
        go_wp2
        go_ret
        exact ⟨rfl, (by repeat (first | exact Gn.refl _ | refine Gn.gr ?_ _ | refine Gn.alloc ?_ _))⟩
    · go_enter Try.func17, Try.ntmps17
      go_wp2
      go_loopw [5] (fun i wr => ∃ k : Nat, k ≤ l.length ∧ i = .int .i64 k ∧ Gn w wr) (fun i _ => l.length - (intOf i).toNat)
      case atStart => exact ⟨0, by omega, rfl, (by repeat (first | exact Gn.refl _ | refine Gn.gr ?_ _ | refine Gn.alloc ?_ _))⟩
      case round =>
        obtain ⟨k, hk, rfl, p, rfl⟩ := hrel
        by_cases hlt : k < l.length
        · have c0 := hc k hlt
          have d0 := hc' k hlt
          clear hc hc'
          have hi : (k : Int) < (l.length : Int) := by omega
          go_wp2
          refine wp_region_gr (by kernel_rfl) (by kernel_rfl) ?_
          repeat (go_big_quiet_step (fail))
          refine wpQuiet_nil ?_
          rintro _ ⟨q4, rfl⟩
          go_wp2
          go_roundw
          case rel => exact ⟨k + 1, by omega, by go_num, (by repeat (first | exact Gn.refl _ | refine Gn.gr ?_ _ | refine Gn.alloc ?_ _))⟩
          case measure => simp [intOf]; omega
        · have hge : k = l.length := by omega
          subst hge
          go_wp2
          go_ret
          exact ⟨rfl, (by repeat (first | exact Gn.refl _ | refine Gn.gr ?_ _ | refine Gn.alloc ?_ _))⟩

set_option maxHeartbeats 1600000 in
theorem without_is (v u : Value) (l m : List B) (w : World) (h : SL w v l) (hu : SL w u m) (ht : l.length ≤ 64) (hm : m.length ≤ 64) :
    Calls Try.prog 18 #[v, u] w fun y w' => ∃ v', y = .returned v' ∧ IL w' v' (ids l m) ∧ Gn w w' := by
  rcases h with ⟨rfl, rfl⟩ | ⟨b, off, cap, rfl, hb, hc⟩
  · go_enter Try.func18, Try.ntmps18
    go_wp2
    go_loop [5, 6] (fun u i => u = .slice none 0 0 ∧ i = .int .i64 0) (fun _ _ => 0)
    case atStart => exact ⟨rfl, rfl⟩
    case round =>
      obtain ⟨rfl, rfl⟩ := hrel
      go_wp2
      go_ret
      exact ⟨_, rfl, .inl ⟨rfl, rfl⟩, (by repeat (first | exact Gn.refl _ | refine Gn.gr ?_ _ | refine Gn.alloc ?_ _))⟩
  · obtain ⟨i0, hi, hz0, hz1, hz2⟩ := info_parts info_int
    go_enter Try.func18, Try.ntmps18
    go_wp2
    go_loopw [5, 6] (fun u i wr => ∃ k : Nat, k ≤ l.length ∧ i = .int .i64 k ∧ wr.ownsRow w.heap.size 3 1 u (ids (l.take k) m).length (ints (ids (l.take k) m)) ∧ Gn w wr) (fun _ i _ => l.length - (intOf i).toNat)
    case atStart => exact ⟨0, by omega, rfl, World.ownsRow_nil _ _ _ _, Gn.refl _⟩
    case round =>
      obtain ⟨k, hk, rfl, hown, p, rfl⟩ := hrel
      obtain ⟨o5, n5, c5, rfl⟩ : ∃ o n c, u5 = .slice o n c := by
        rcases hown.2 with ⟨rfl, _⟩ | ⟨_, _, _, rfl, _⟩ <;> exact ⟨_, _, _, rfl⟩
      have hck := hc k
      have hfl := ids_len l m k
      have HC : Hid (∀ q : Gr, _) := fun q => rhas_is u m (el l k).id (w.gr q) (hu.grown ⟨q, rfl⟩) hm
      go_wp2_with (first
        | (go_at_call 15; refine (HC.out _).mono ?_; rintro y w' ⟨rfl, q, rfl⟩; replace hown := own_gn hown ⟨q, rfl⟩; simp only [gr_gr] at hown)
        | (at_builtin; refine wpList_append_own _ rfl _ _ 34 rfl w.heap.size 3 i0 (.int .i64 0) 1 8 Try.underlying34 hi hz0 hz1 hz2 rfl (by decide) _ _ _ rfl (own_gn hown (by repeat (first | exact Gn.refl _ | refine Gn.gr ?_ _ | refine Gn.alloc ?_ _))) ⟨_, 0, none⟩ 1 1 [.int .i64 (el l k).id] rfl rfl ?c1 ?c2 ?c3 ?c4 ?c5 ?_))
      case c1 =>
        intro j u hj
        exact row_int _ _ _ _ _ (by simp only [size_gr, Array.size_append]) hj
      case c2 => intro u hu; simp at hu; rcases hu with rfl; rfl
      case c3 => unfold maxLen; omega
      case c4 => omega
      case c5 => simp only [size_gr, size_alloc, Array.size_append]; omega
      · intro v' w1 hown' hgrow _
        have hlt : k < l.length := by assumption
        have hok : hasB m (el l k).id = false := by simpa using (show (!hasB m (el l k).id) = true by assumption)
        have hl := hown.lt
        have e1 := ids_take (m := m) hlt
        rw [hok, if_neg (by simp)] at e1
        have hg1 : Gn w w1 := Gn.grown (by repeat (first | exact Gn.refl _ | refine Gn.gr ?_ _ | refine Gn.alloc ?_ _)) hgrow (fun b hb => (hl b hb).1)
        have ho1 : w1.ownsRow w.heap.size 3 1 v' (ids (l.take (k + 1)) m).length (ints (ids (l.take (k + 1)) m)) := by
          rw [e1, List.length_append, ints_append]
          exact hown'
        clear hown' hgrow hown hl e1
        go_wp2
        go_roundw
        case rel => exact ⟨k + 1, by omega, by go_num, ho1, hg1⟩
        case measure => simp [intOf]; omega
      · have hlt : k < l.length := by assumption
        have hok : hasB m (el l k).id = true := by simpa using (show (!hasB m (el l k).id) = false by assumption)
        have e1 := ids_take (m := m) hlt
        rw [hok, if_pos rfl, List.append_nil] at e1
        go_roundw
        case rel => exact ⟨k + 1, by omega, by go_num, by rw [e1]; exact own_gn hown (by repeat (first | exact Gn.refl _ | refine Gn.gr ?_ _ | refine Gn.alloc ?_ _)), (by repeat (first | exact Gn.refl _ | refine Gn.gr ?_ _ | refine Gn.alloc ?_ _))⟩
        case measure => simp [intOf]; omega
      · have hge : k = l.length := by omega
        subst hge
        rw [List.take_length] at hown
        go_ret
        exact ⟨_, rfl, IL.of_own hown, (by repeat (first | exact Gn.refl _ | refine Gn.gr ?_ _ | refine Gn.alloc ?_ _))⟩
end Go.Proofs.Ythcmhegbmpnepaa
