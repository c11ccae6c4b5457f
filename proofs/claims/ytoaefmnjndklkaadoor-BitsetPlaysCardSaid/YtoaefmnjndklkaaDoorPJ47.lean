/- BitsetPlays' walk. -/
import Derived.Test.YtoaefmnjndklkaaDoorPM47
import Derived.Test.YtoaefmnjndklkaaDoorPN47
namespace Go.Proofs.YtoaefmnjndklkaaDoor
open Go.ChangeShapes Go.WideShapes Go.RowKit Go.Deep
set_option maxHeartbeats 8000000 in
set_option maxRecDepth 100000 in
theorem plays_walk (size : Int) (v v' : Value) (l l' : List (Int × Int)) (n : Int) (w : World) (hT : TabAt 0 Lib.deBruijn64tab w) (hv : PA w v l) (hv' : PA w v' l') (hn : -9223372036854775808 ≤ n ∧ n ≤ 9223372036854775807) :
    Calls Tryd.prog 4 #[.int .i64 size, v, v', .int .i64 n] w fun e w' => e = .returned (.bool true) ∧ Gn w w' := by
  by_cases hin : l.length ≤ 40 ∧ l'.length ≤ 40 ∧ 0 ≤ size ∧ size ≤ 4096
  · obtain ⟨h1, h2, h3, h4⟩ := hin
    obtain ⟨N, rfl⟩ : ∃ N : Nat, size = N := ⟨size.toNat, by omega⟩
    by_cases hs : 0 ≤ n
    · exact plays_pos N v v' l l' n w hT hv hv' hn h1 h2 (by omega) hs
    · exact plays_neg N v v' l l' n w hT hv hv' hn h1 h2 (by omega) (by omega)
  obtain ⟨o, c, rfl⟩ := hv.shape
  obtain ⟨o', c', rfl⟩ := hv'.shape
  have HT : Hid (TabAt 0 Lib.deBruijn64tab w) := hT
  clear hT hv hv'
  by_cases hlen : l.length ≤ 40
  · by_cases hlen' : l'.length ≤ 40
    · have hb : size < 0 ∨ 4096 < size := by omega
      have HB : Hid (size < 0 ∨ 4096 < size) := hb
      have hg : ¬ (40 : Int) < (l.length : Int) := by omega
      have hg2 : ¬ (40 : Int) < (l'.length : Int) := by omega
      clear hin hlen hlen'
      rcases hb with hb | hb
      · go_enter Tryd.func4, Tryd.ntmps4
        go_wp2_with (first
          | (go_at_call 6; refine Calls.mono (new_bad _ _ HB.out) ?_; rintro _ _ ⟨rfl, rfl⟩)
          | (go_at_call 5; refine Calls.mono (awake_any _ (tab_gn HT.out (by with_reducible (repeat (first | exact Gn.refl _ | refine Gn.gr ?_ _ | refine Gn.alloc ?_ _ | refine Gn.drew ?_))))) ?_; rintro _ w1 ⟨rfl, h1⟩; have HG1 : Hid (Gn w w1) := Gn.trans (by with_reducible (repeat (first | exact Gn.refl _ | refine Gn.gr ?_ _ | refine Gn.alloc ?_ _ | refine Gn.drew ?_))) h1; clear h1))
        go_ret
        exact ⟨rfl, HG1.out⟩
      · have hb2 : ¬ size < 0 := by omega
        go_enter Tryd.func4, Tryd.ntmps4
        go_wp2_with (first
          | (go_at_call 6; refine Calls.mono (new_bad _ _ HB.out) ?_; rintro _ _ ⟨rfl, rfl⟩)
          | (go_at_call 5; refine Calls.mono (awake_any _ (tab_gn HT.out (by with_reducible (repeat (first | exact Gn.refl _ | refine Gn.gr ?_ _ | refine Gn.alloc ?_ _ | refine Gn.drew ?_))))) ?_; rintro _ w1 ⟨rfl, h1⟩; have HG1 : Hid (Gn w w1) := Gn.trans (by with_reducible (repeat (first | exact Gn.refl _ | refine Gn.gr ?_ _ | refine Gn.alloc ?_ _ | refine Gn.drew ?_))) h1; clear h1))
        go_ret
        exact ⟨rfl, HG1.out⟩
    · have hg : (40 : Int) < (l'.length : Int) := by omega
      have hg2 : ¬ (40 : Int) < (l.length : Int) := by omega
      clear hin
      go_enter Tryd.func4, Tryd.ntmps4
      go_wp2_with (go_at_call 5; refine Calls.mono (awake_any _ HT.out) ?_; rintro _ w1 ⟨rfl, h1⟩; have HG1 : Hid (Gn w w1) := h1; clear h1)
      go_ret
      exact ⟨rfl, HG1.out⟩
  · have hg : (40 : Int) < (l.length : Int) := by omega
    clear hin
    go_enter Tryd.func4, Tryd.ntmps4
    go_wp2_with (go_at_call 5; refine Calls.mono (awake_any _ HT.out) ?_; rintro _ w1 ⟨rfl, h1⟩; have HG1 : Hid (Gn w w1) := h1; clear h1)
    go_ret
    exact ⟨rfl, HG1.out⟩
end Go.Proofs.YtoaefmnjndklkaaDoor
