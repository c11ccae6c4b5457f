/- The walk of the law EligibleTells. -/
import Derived.Test.YthcmhegbmpnepaaSpans
import Derived.Test.YthcmhegbmpnepaaRefE
namespace Go.Proofs.Ythcmhegbmpnepaa
open Go.RowKit

/-- An argument reads as a list. -/
def SA (w : World) (v : Value) (l : List B) : Prop :=
  (l = [] ∧ ∃ o c, v = .slice o 0 c) ∨ ∃ b off cap, v = .slice (some ⟨b, off, none⟩) l.length cap ∧ Cells w b off l
theorem SA.grown {w w' : World} {v : Value} {l : List B} (h : SA w v l) (hg : Gn w w') : SA w' v l := by
  rcases h with h | ⟨b, off, cap, rfl, hc⟩
  · exact .inl h
  · exact .inr ⟨b, off, cap, rfl, hc.grown hg⟩
theorem SA.shape {w : World} {v : Value} {l : List B} (h : SA w v l) : ∃ o c, v = .slice o l.length c := by
  rcases h with ⟨rfl, o, c, rfl⟩ | ⟨b, off, cap, rfl, _⟩ <;> exact ⟨_, _, rfl⟩
theorem SL.all {w : World} {p : Gr} {v : Value} {l : List B} (h : SL (w.gr p) v l) : SL (w.gr p) v l ∧ ∀ d s, SL (w.gr ⟨d, p.os ++ s⟩) v l := by
  refine ⟨h, ?_⟩
  intro d s
  have := h.grown ⟨⟨d, s⟩, rfl⟩
  rwa [gr_gr] at this
theorem IL.all {w : World} {p : Gr} {v : Value} {l : List Int} (h : IL (w.gr p) v l) : IL (w.gr p) v l ∧ ∀ d s, IL (w.gr ⟨d, p.os ++ s⟩) v l := by
  refine ⟨h, ?_⟩
  intro d s
  have := h.grown ⟨⟨d, s⟩, rfl⟩
  rwa [gr_gr] at this
theorem right_sa (v : Value) (l : List B) (w : World) (h : SA w v l) (ht : l.length ≤ 64) : Calls Try.prog 5 #[v] w fun y w' => y = .returned (.bool (decide (Right l))) ∧ Gn w w' := by
  rcases h with ⟨rfl, o, c, rfl⟩ | h
  · exact right_nil o c w
  · exact right_is v l w (.inr h) ht
theorem of_sa (v : Value) (l : List B) (x : Int) (w : World) (h : SA w v l) (ht : l.length ≤ 64) :
    Calls Try.prog 7 #[v, .int .i64 x] w fun y w' => ∃ v', y = .returned (.agg #[.int .i64 x, v']) ∧ SL w' v' (l.filter ok) ∧ Gn w w' := by
  rcases h with ⟨rfl, o, c, rfl⟩ | h
  · go_enter Try.func7, Try.ntmps7
    go_wp2
    go_loop [5, 10] (fun u i => u = .slice none 0 0 ∧ i = .int .i64 0) (fun _ _ => 0)
    case atStart => exact ⟨rfl, rfl⟩
    case round =>
      obtain ⟨rfl, rfl⟩ := hrel
      go_wp2
      exact bodyPost_ret (v := .agg #[.int .i64 x, .slice none 0 0]) (by simp [results, Try.results7, go_sem]) rfl ⟨_, rfl, .inl ⟨rfl, rfl⟩, (by with_reducible (repeat (first | exact Gn.refl _ | refine Gn.gr ?_ _ | refine Gn.alloc ?_ _)))⟩
  · exact of_is v l x w (.inr h) ht
theorem rof_sa (v : Value) (l : List B) (w : World) (h : SA w v l) (ht : l.length ≤ 64) :
    Calls Try.prog 11 #[v] w fun y w' => ∃ v', y = .returned v' ∧ SL w' v' (l.filter ok) ∧ Gn w w' := by
  rcases h with ⟨rfl, o, c, rfl⟩ | h
  · go_enter Try.func11, Try.ntmps11
    go_wp2
    go_loop [3, 4] (fun u i => u = .slice none 0 0 ∧ i = .int .i64 0) (fun _ _ => 0)
    case atStart => exact ⟨rfl, rfl⟩
    case round =>
      obtain ⟨rfl, rfl⟩ := hrel
      go_wp2
      go_ret
      exact ⟨_, rfl, .inl ⟨rfl, rfl⟩, (by with_reducible (repeat (first | exact Gn.refl _ | refine Gn.gr ?_ _ | refine Gn.alloc ?_ _)))⟩
  · exact rof_is v l w (.inr h) ht
theorem filt_tame64 {l : List B} (h : Right l) (hl : l.length ≤ 64) : Tame (l.filter ok) := by
  refine ⟨by have := List.length_filter_le ok l; omega, fun b hb => ?_⟩
  obtain ⟨i, hi, rfl⟩ := List.getElem_of_mem (List.mem_filter.1 hb).1
  have := h i hi
  simp only [badAt, decide_eq_false_iff_not, el, List.getD_eq_getElem?_getD, List.getElem?_eq_getElem hi, Option.getD_some] at this
  omega
theorem at_gen (v : Value) (l : List B) (x n : Int) (w : World) (h : SL w v l) (ht : Tame l) (b : B) (k : Bool) (hb : atB l n = b) (hk : atOk l n = k) : Calls Try.prog 9 #[.agg #[.int .i64 x, v], .int .i64 n] w fun y w' =>
    y = .returned (.tuple #[.agg #[.int .i64 b.id, .int .i64 b.wt, .int .i64 b.st, .bool b.v6, .int .u64 b.hi, .int .u64 b.lo], .bool k]) ∧ Gn w w' := by
  subst hb hk
  exact at_is v l x n w h ht
theorem rat_gen (v : Value) (l : List B) (n : Int) (w : World) (h : SL w v l) (ht : Tame l) (hn : -9223372036854775808 ≤ n ∧ n ≤ 9223372036854775807) (b : B) (k : Bool) (hb : atB l n = b) (hk : atOk l n = k) :
    Calls Try.prog 12 #[v, .int .i64 n] w fun y w' =>
    y = .returned (.tuple #[.agg #[.int .i64 b.id, .int .i64 b.wt, .int .i64 b.st, .bool b.v6, .int .u64 b.hi, .int .u64 b.lo], .bool k]) ∧ Gn w w' := by
  subst hb hk
  exact rat_is v l n w h ht hn
theorem ids_len' (l m : List B) : (ids l m).length ≤ l.length := by
  have := ids_len l m l.length
  rwa [List.take_length] at this

set_option maxHeartbeats 600000 in
set_option maxRecDepth 100000 in
theorem tells_walk (va vb : Value) (l m : List B) (ver id n : Int) (w : World) (hl : SA w va l) (hm : SA w vb m) (h1 : l.length ≤ maxLen) (h2 : m.length ≤ maxLen)
    (hn : -9223372036854775808 ≤ n ∧ n ≤ 9223372036854775807) :
    Calls Try.prog 4 #[va, vb, .int .i64 ver, .int .i64 id, .int .i64 n] w fun e w' => e = .returned (.bool true) ∧ Gn w w' := by
  obtain ⟨o, c, rfl⟩ := hl.shape
  obtain ⟨o', c', rfl⟩ := hm.shape
  have t5 : Hid True := trivial
  have t7 : Hid True := trivial
  have t11 : Hid True := trivial
  have t18 : Hid True := trivial
  have t17 : Hid True := trivial
  have HL : Hid _ := hl
  have HM : Hid _ := hm
  clear hl hm
  unfold maxLen at h1 h2
  by_cases a1 : 30 < l.length
  · have d1 : decide ((30 : Int) < (l.length : Int)) = true := by rw [decide_eq_true_eq]; omega
    go_enter Try.func4, Try.ntmps4
    go_wp2_with (first
      | (go_at_call 6; refine (awake_is _).mono ?_; rintro y w' ⟨rfl, q, rfl⟩))
    all_goals first
      | omega
      | (go_ret; exact ⟨rfl, (by with_reducible (repeat (first | exact Gn.refl _ | refine Gn.gr ?_ _ | refine Gn.alloc ?_ _)))⟩)
  have d1 : decide ((30 : Int) < (l.length : Int)) = false := by rw [decide_eq_false_iff_not]; omega
  by_cases a2 : 30 < m.length
  · have d2 : decide ((30 : Int) < (m.length : Int)) = true := by rw [decide_eq_true_eq]; omega
    go_enter Try.func4, Try.ntmps4
    go_wp2_with (first
      | (go_at_call 6; refine (awake_is _).mono ?_; rintro y w' ⟨rfl, q, rfl⟩))
    all_goals first
      | omega
      | (go_ret; exact ⟨rfl, (by with_reducible (repeat (first | exact Gn.refl _ | refine Gn.gr ?_ _ | refine Gn.alloc ?_ _)))⟩)
  have d2 : decide ((30 : Int) < (m.length : Int)) = false := by rw [decide_eq_false_iff_not]; omega
  cases d3 : decide (Right l)
  · go_enter Try.func4, Try.ntmps4
    go_wp2_with (first
      | (go_at_call 5; clear t5; refine (right_sa _ l _ (SA.grown HL.out (by with_reducible (repeat (first | exact Gn.refl _ | refine Gn.gr ?_ _ | refine Gn.alloc ?_ _)))) (by omega)).mono ?_; rintro y w' ⟨rfl, q, rfl⟩; (try simp only [d3]))
      | (go_at_call 6; refine (awake_is _).mono ?_; rintro y w' ⟨rfl, q, rfl⟩))
    all_goals first
      | omega
      | (go_ret; exact ⟨rfl, (by with_reducible (repeat (first | exact Gn.refl _ | refine Gn.gr ?_ _ | refine Gn.alloc ?_ _)))⟩)
  cases d4 : decide (Right m)
  · go_enter Try.func4, Try.ntmps4
    go_wp2_with (first
      | (go_at_call 5; clear t5; refine (right_sa _ l _ (SA.grown HL.out (by with_reducible (repeat (first | exact Gn.refl _ | refine Gn.gr ?_ _ | refine Gn.alloc ?_ _)))) (by omega)).mono ?_; rintro y w' ⟨rfl, q, rfl⟩; (try simp only [d3]))
      | (go_at_call 5; refine (right_sa _ m _ (SA.grown HM.out (by with_reducible (repeat (first | exact Gn.refl _ | refine Gn.gr ?_ _ | refine Gn.alloc ?_ _)))) (by omega)).mono ?_; rintro y w' ⟨rfl, q, rfl⟩; (try simp only [d4]))
      | (go_at_call 6; refine (awake_is _).mono ?_; rintro y w' ⟨rfl, q, rfl⟩))
    all_goals first
      | omega
      | (go_ret; exact ⟨rfl, (by with_reducible (repeat (first | exact Gn.refl _ | refine Gn.gr ?_ _ | refine Gn.alloc ?_ _)))⟩)
  have HT := filt_tame64 (by simpa using d3) (show l.length ≤ 64 by omega)
  have g1 := List.length_filter_le ok l
  have g2 := List.length_filter_le ok m
  have g3 := ids_len' (l.filter ok) (m.filter ok)
  have g4 := ids_len' (m.filter ok) (l.filter ok)
  obtain ⟨bb, hb⟩ : ∃ b, atB (l.filter ok) n = b := ⟨_, rfl⟩
  obtain ⟨kk, hk⟩ : ∃ b, atOk (l.filter ok) n = b := ⟨_, rfl⟩
  have HB : Hid _ := hb
  have HK : Hid _ := hk
  clear hb hk
  go_enter Try.func4, Try.ntmps4
  go_wp2_with (first
    | (go_at_call 5; clear t5; refine (right_sa _ l _ (SA.grown HL.out (by with_reducible (repeat (first | exact Gn.refl _ | refine Gn.gr ?_ _ | refine Gn.alloc ?_ _)))) (by omega)).mono ?_; rintro y w' ⟨rfl, q, rfl⟩; (try simp only [d3]))
    | (go_at_call 5; refine (right_sa _ m _ (SA.grown HM.out (by with_reducible (repeat (first | exact Gn.refl _ | refine Gn.gr ?_ _ | refine Gn.alloc ?_ _)))) (by omega)).mono ?_; rintro y w' ⟨rfl, q, rfl⟩; (try simp only [d4]))
    | (go_at_call 6; refine (awake_is _).mono ?_; rintro y w' ⟨rfl, q, rfl⟩)
    | (go_at_call 7; clear t7; refine (of_sa _ l ver _ (SA.grown HL.out (by with_reducible (repeat (first | exact Gn.refl _ | refine Gn.gr ?_ _ | refine Gn.alloc ?_ _)))) (by omega)).mono ?_; rintro y w' ⟨v1, rfl, i1, q, rfl⟩; obtain ⟨o1, n1, c1, rfl⟩ := SL.shape i1; replace i1 := SL.all i1; (try simp only [gr_gr, Array.append_assoc] at i1); have I1 : Hid _ := i1; clear i1)
    | (go_at_call 7; refine (of_sa _ m 0 _ (SA.grown HM.out (by with_reducible (repeat (first | exact Gn.refl _ | refine Gn.gr ?_ _ | refine Gn.alloc ?_ _)))) (by omega)).mono ?_; rintro y w' ⟨v2, rfl, i2, q, rfl⟩; obtain ⟨o2, n2, c2, rfl⟩ := SL.shape i2; replace i2 := SL.all i2; (try simp only [gr_gr, Array.append_assoc] at i2); have I2 : Hid _ := i2; clear i2)
    | (go_at_call 11; clear t11; refine (rof_sa _ l _ (SA.grown HL.out (by with_reducible (repeat (first | exact Gn.refl _ | refine Gn.gr ?_ _ | refine Gn.alloc ?_ _)))) (by omega)).mono ?_; rintro y w' ⟨v3, rfl, i3, q, rfl⟩; replace i3 := SL.all i3; (try simp only [gr_gr, Array.append_assoc] at i3); have I3 : Hid _ := i3; clear i3)
    | (go_at_call 11; refine (rof_sa _ m _ (SA.grown HM.out (by with_reducible (repeat (first | exact Gn.refl _ | refine Gn.gr ?_ _ | refine Gn.alloc ?_ _)))) (by omega)).mono ?_; rintro y w' ⟨v4, rfl, i4, q, rfl⟩; replace i4 := SL.all i4; (try simp only [gr_gr, Array.append_assoc] at i4); have I4 : Hid _ := i4; clear i4)
    | (go_at_call 9; refine (at_gen _ (l.filter ok) _ n _ (by first | (refine SL.grown I1.out.1 ?_; (with_reducible (repeat (first | exact Gn.refl _ | refine Gn.gr ?_ _ | refine Gn.alloc ?_ _))); done) | (refine SL.grown (I1.out.2 ?dI1 ?sI1) ?hI1; case hI1 => (with_reducible (repeat (first | exact Gn.refl _ | refine Gn.gr ?_ _ | refine Gn.alloc ?_ _))))) HT bb kk HB.out HK.out).mono ?_; rintro y w' ⟨rfl, q, rfl⟩)
    | (go_at_call 12; refine (rat_gen v3 (l.filter ok) n _ (by first | (refine SL.grown I3.out.1 ?_; (with_reducible (repeat (first | exact Gn.refl _ | refine Gn.gr ?_ _ | refine Gn.alloc ?_ _))); done) | (refine SL.grown (I3.out.2 ?dI3 ?sI3) ?hI3; case hI3 => (with_reducible (repeat (first | exact Gn.refl _ | refine Gn.gr ?_ _ | refine Gn.alloc ?_ _))))) HT hn bb kk HB.out HK.out).mono ?_; rintro y w' ⟨rfl, q, rfl⟩)
    | (go_at_call 13; refine (diff_is _ _ (l.filter ok) (m.filter ok) _ _ _ (by first | (refine SL.grown I1.out.1 ?_; (with_reducible (repeat (first | exact Gn.refl _ | refine Gn.gr ?_ _ | refine Gn.alloc ?_ _))); done) | (refine SL.grown (I1.out.2 ?dI1 ?sI1) ?hI1; case hI1 => (with_reducible (repeat (first | exact Gn.refl _ | refine Gn.gr ?_ _ | refine Gn.alloc ?_ _))))) (by first | (refine SL.grown I2.out.1 ?_; (with_reducible (repeat (first | exact Gn.refl _ | refine Gn.gr ?_ _ | refine Gn.alloc ?_ _))); done) | (refine SL.grown (I2.out.2 ?dI2 ?sI2) ?hI2; case hI2 => (with_reducible (repeat (first | exact Gn.refl _ | refine Gn.gr ?_ _ | refine Gn.alloc ?_ _))))) (by omega) (by omega)).mono ?_; rintro y w' ⟨v5, v6, rfl, k1, k2, q, rfl⟩; replace k1 := IL.all k1; (try simp only [gr_gr, Array.append_assoc] at k1); have K1 : Hid _ := k1; clear k1; replace k2 := IL.all k2; (try simp only [gr_gr, Array.append_assoc] at k2); have K2 : Hid _ := k2; clear k2)
    | (go_at_call 14; refine (same_is _ v3 (l.filter ok) _ (by first | (refine SL.grown I1.out.1 ?_; (with_reducible (repeat (first | exact Gn.refl _ | refine Gn.gr ?_ _ | refine Gn.alloc ?_ _))); done) | (refine SL.grown (I1.out.2 ?dI1 ?sI1) ?hI1; case hI1 => (with_reducible (repeat (first | exact Gn.refl _ | refine Gn.gr ?_ _ | refine Gn.alloc ?_ _))))) (by first | (refine SL.grown I3.out.1 ?_; (with_reducible (repeat (first | exact Gn.refl _ | refine Gn.gr ?_ _ | refine Gn.alloc ?_ _))); done) | (refine SL.grown (I3.out.2 ?dI3 ?sI3) ?hI3; case hI3 => (with_reducible (repeat (first | exact Gn.refl _ | refine Gn.gr ?_ _ | refine Gn.alloc ?_ _))))) (by omega)).mono ?_; rintro y w' ⟨rfl, q, rfl⟩)
    | (go_at_call 10; refine (has_is _ (l.filter ok) _ id _ (by first | (refine SL.grown I1.out.1 ?_; (with_reducible (repeat (first | exact Gn.refl _ | refine Gn.gr ?_ _ | refine Gn.alloc ?_ _))); done) | (refine SL.grown (I1.out.2 ?dI1 ?sI1) ?hI1; case hI1 => (with_reducible (repeat (first | exact Gn.refl _ | refine Gn.gr ?_ _ | refine Gn.alloc ?_ _))))) (by omega)).mono ?_; rintro y w' ⟨rfl, q, rfl⟩)
    | (go_at_call 15; refine (rhas_is v3 (l.filter ok) id _ (by first | (refine SL.grown I3.out.1 ?_; (with_reducible (repeat (first | exact Gn.refl _ | refine Gn.gr ?_ _ | refine Gn.alloc ?_ _))); done) | (refine SL.grown (I3.out.2 ?dI3 ?sI3) ?hI3; case hI3 => (with_reducible (repeat (first | exact Gn.refl _ | refine Gn.gr ?_ _ | refine Gn.alloc ?_ _))))) (by omega)).mono ?_; rintro y w' ⟨rfl, q, rfl⟩)
    | (go_at_call 8; refine (weight_is _ (l.filter ok) _ _ (by first | (refine SL.grown I1.out.1 ?_; (with_reducible (repeat (first | exact Gn.refl _ | refine Gn.gr ?_ _ | refine Gn.alloc ?_ _))); done) | (refine SL.grown (I1.out.2 ?dI1 ?sI1) ?hI1; case hI1 => (with_reducible (repeat (first | exact Gn.refl _ | refine Gn.gr ?_ _ | refine Gn.alloc ?_ _))))) HT).mono ?_; rintro y w' ⟨rfl, q, rfl⟩)
    | (go_at_call 16; refine (rweight_is v3 (l.filter ok) _ (by first | (refine SL.grown I3.out.1 ?_; (with_reducible (repeat (first | exact Gn.refl _ | refine Gn.gr ?_ _ | refine Gn.alloc ?_ _))); done) | (refine SL.grown (I3.out.2 ?dI3 ?sI3) ?hI3; case hI3 => (with_reducible (repeat (first | exact Gn.refl _ | refine Gn.gr ?_ _ | refine Gn.alloc ?_ _))))) HT).mono ?_; rintro y w' ⟨rfl, q, rfl⟩)
    | (go_at_call 18; clear t18; refine (without_is v4 v3 (m.filter ok) (l.filter ok) _ (by first | (refine SL.grown I4.out.1 ?_; (with_reducible (repeat (first | exact Gn.refl _ | refine Gn.gr ?_ _ | refine Gn.alloc ?_ _))); done) | (refine SL.grown (I4.out.2 ?dI4 ?sI4) ?hI4; case hI4 => (with_reducible (repeat (first | exact Gn.refl _ | refine Gn.gr ?_ _ | refine Gn.alloc ?_ _))))) (by first | (refine SL.grown I3.out.1 ?_; (with_reducible (repeat (first | exact Gn.refl _ | refine Gn.gr ?_ _ | refine Gn.alloc ?_ _))); done) | (refine SL.grown (I3.out.2 ?dI3 ?sI3) ?hI3; case hI3 => (with_reducible (repeat (first | exact Gn.refl _ | refine Gn.gr ?_ _ | refine Gn.alloc ?_ _))))) (by omega) (by omega)).mono ?_; rintro y w' ⟨v7, rfl, m1, q, rfl⟩; replace m1 := IL.all m1; (try simp only [gr_gr, Array.append_assoc] at m1); have M1 : Hid _ := m1; clear m1)
    | (go_at_call 18; refine (without_is v3 v4 (l.filter ok) (m.filter ok) _ (by first | (refine SL.grown I3.out.1 ?_; (with_reducible (repeat (first | exact Gn.refl _ | refine Gn.gr ?_ _ | refine Gn.alloc ?_ _))); done) | (refine SL.grown (I3.out.2 ?dI3 ?sI3) ?hI3; case hI3 => (with_reducible (repeat (first | exact Gn.refl _ | refine Gn.gr ?_ _ | refine Gn.alloc ?_ _))))) (by first | (refine SL.grown I4.out.1 ?_; (with_reducible (repeat (first | exact Gn.refl _ | refine Gn.gr ?_ _ | refine Gn.alloc ?_ _))); done) | (refine SL.grown (I4.out.2 ?dI4 ?sI4) ?hI4; case hI4 => (with_reducible (repeat (first | exact Gn.refl _ | refine Gn.gr ?_ _ | refine Gn.alloc ?_ _))))) (by omega) (by omega)).mono ?_; rintro y w' ⟨v8, rfl, m2, q, rfl⟩; replace m2 := IL.all m2; (try simp only [gr_gr, Array.append_assoc] at m2); have M2 : Hid _ := m2; clear m2)
    | (go_at_call 17; clear t17; refine (sameints_is v5 v7 (ids (m.filter ok) (l.filter ok)) _ (by first | (refine IL.grown K1.out.1 ?_; (with_reducible (repeat (first | exact Gn.refl _ | refine Gn.gr ?_ _ | refine Gn.alloc ?_ _))); done) | (refine IL.grown (K1.out.2 ?dK1 ?sK1) ?hK1; case hK1 => (with_reducible (repeat (first | exact Gn.refl _ | refine Gn.gr ?_ _ | refine Gn.alloc ?_ _))))) (by first | (refine IL.grown M1.out.1 ?_; (with_reducible (repeat (first | exact Gn.refl _ | refine Gn.gr ?_ _ | refine Gn.alloc ?_ _))); done) | (refine IL.grown (M1.out.2 ?dM1 ?sM1) ?hM1; case hM1 => (with_reducible (repeat (first | exact Gn.refl _ | refine Gn.gr ?_ _ | refine Gn.alloc ?_ _))))) (by omega)).mono ?_; rintro y w' ⟨rfl, q, rfl⟩)
    | (go_at_call 17; refine (sameints_is v6 v8 (ids (l.filter ok) (m.filter ok)) _ (by first | (refine IL.grown K2.out.1 ?_; (with_reducible (repeat (first | exact Gn.refl _ | refine Gn.gr ?_ _ | refine Gn.alloc ?_ _))); done) | (refine IL.grown (K2.out.2 ?dK2 ?sK2) ?hK2; case hK2 => (with_reducible (repeat (first | exact Gn.refl _ | refine Gn.gr ?_ _ | refine Gn.alloc ?_ _))))) (by first | (refine IL.grown M2.out.1 ?_; (with_reducible (repeat (first | exact Gn.refl _ | refine Gn.gr ?_ _ | refine Gn.alloc ?_ _))); done) | (refine IL.grown (M2.out.2 ?dM2 ?sM2) ?hM2; case hM2 => (with_reducible (repeat (first | exact Gn.refl _ | refine Gn.gr ?_ _ | refine Gn.alloc ?_ _))))) (by omega)).mono ?_; rintro y w' ⟨rfl, q, rfl⟩))
  all_goals (go_ret; exact ⟨rfl, (by with_reducible (repeat (first | exact Gn.refl _ | refine Gn.gr ?_ _ | refine Gn.alloc ?_ _)))⟩)
end Go.Proofs.Ythcmhegbmpnepaa
