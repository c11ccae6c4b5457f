/- Version. -/
import Derived.Test.YtidekhhelljjdaaRTurn
namespace Go.Proofs.Ytidekhhelljjdaa
open Go.RowKit

theorem version_is (tb : Nat) (mk : Bool) (ver W : Int) (sv : Value) (w : World) (h : TB w tb mk true ver W sv) :
    Calls Try.prog 13 #[.pointer (some ⟨tb, 0, none⟩)] w fun y w' => y = .returned (.tuple #[.int .i64 ver, .bool true]) ∧ Gn w w' := by
  obtain ⟨tl, ⟨c0, c1, c2, c3, c4⟩, _⟩ := h.facts
  clear h
  go_enter Try.func13, Try.ntmps13
  go_wp2
  exact bodyPost_ret (v := .tuple #[.int .i64 ver, .bool true]) (by simp [results, Try.results13, go_sem]) rfl ⟨rfl, (by with_reducible (repeat (first | exact Gn.refl _ | refine Gn.gr ?_ _ | refine Gn.alloc ?_ _ | refine Gn.drew ?_)))⟩
theorem version_no (tb : Nat) (mk : Bool) (ver W : Int) (sv : Value) (w : World) (h : TB w tb mk false ver W sv) :
    Calls Try.prog 13 #[.pointer (some ⟨tb, 0, none⟩)] w fun y w' => y = .returned (.tuple #[.int .i64 0, .bool false]) ∧ Gn w w' := by
  obtain ⟨tl, ⟨c0, c1, c2, c3, c4⟩, _⟩ := h.facts
  clear h
  go_enter Try.func13, Try.ntmps13
  go_wp2
  exact bodyPost_ret (v := .tuple #[.int .i64 0, .bool false]) (by simp [results, Try.results13, go_sem]) rfl ⟨rfl, (by with_reducible (repeat (first | exact Gn.refl _ | refine Gn.gr ?_ _ | refine Gn.alloc ?_ _ | refine Gn.drew ?_)))⟩
end Go.Proofs.Ytidekhhelljjdaa
