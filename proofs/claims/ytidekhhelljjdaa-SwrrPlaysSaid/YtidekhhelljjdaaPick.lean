/- Pick: the backend whose turn it is. -/
import Derived.Test.YtidekhhelljjdaaTur
namespace Go.Proofs.Ytidekhhelljjdaa
open Go.RowKit

/-- The place of the first greatest of k numbers. -/
def bst (f : Nat → Int) : Nat → Nat
  | 0 => 0
  | k + 1 => if f (bst f k) < f k then k else bst f k
theorem bst_lt (f : Nat → Int) : ∀ {k : Nat}, 0 < k → bst f k < k
  | 0, h => by omega
  | 1, _ => by unfold bst bst; split <;> omega
  | k + 2, _ => by
    have := bst_lt f (k := k + 1) (by omega)
    rw [bst]
    split <;> omega
theorem bst_ge (f : Nat → Int) (k : Nat) : ∀ j, j < k → f j ≤ f (bst f k) := by
  induction k with
  | zero => intro j hj; omega
  | succ k ih =>
    intro j hj
    rw [bst]
    split
    · rcases Nat.lt_succ_iff_lt_or_eq.1 hj with h | rfl
      · have := ih j h; omega
      · omega
    · rcases Nat.lt_succ_iff_lt_or_eq.1 hj with h | rfl
      · exact ih j h
      · omega
theorem bst_congr {f f' : Nat → Int} {k : Nat} (h : ∀ j, j < k → f j = f' j) : bst f k = bst f' k := by
  induction k with
  | zero => rfl
  | succ k ih =>
    have e := ih (fun j hj => h j (by omega))
    rw [bst, bst, ← e, ← h k (by omega)]
    rcases Nat.eq_zero_or_pos k with rfl | hk
    · show (if f 0 < f 0 then 0 else 0) = (if f' 0 < f 0 then 0 else 0)
      rw [ite_self, ite_self]
    · rw [← h _ (Nat.lt_succ_of_lt (bst_lt f hk))]

def plus (l : List B) (ns : Nat → Int) (j : Nat) : Int := ns j + (el l j).wt
def best (l : List B) (ns : Nat → Int) : Nat := bst (plus l ns) l.length
def nx (l : List B) (ns : Nat → Int) (j : Nat) : Int := if j = best l ns then plus l ns j - sumW l else plus l ns j

/-- The turner at tb has the set l, its numbers are ns. -/
def Has (w : World) (tb g : Nat) (l : List B) (ns : Nat → Int) (ver : Int) : Prop :=
  ∃ cap, TB w tb true true ver (sumW l) (.slice (some ⟨g, 0, none⟩) l.length cap) ∧ Row w g l ns ∧ g ≠ tb
theorem Has.kept {S : Nat → Prop} {w w' : World} {tb g : Nat} {l : List B} {ns : Nat → Int} {ver : Int} (h : Has w tb g l ns ver) (hk : Kp S w w') (h1 : ¬ S tb) (h2 : ¬ S g) : Has w' tb g l ns ver := by
  obtain ⟨cap, a, b, c⟩ := h
  exact ⟨cap, a.kept hk h1, b.kept hk h2, c⟩
theorem Has.grown {w w' : World} {tb g : Nat} {l : List B} {ns : Nat → Int} {ver : Int} (h : Has w tb g l ns ver) (hk : Gn w w') : Has w' tb g l ns ver := h.kept (Kp.of_gn (fun _ => False) hk) (fun h => h) (fun h => h)

theorem pick_nil (x : Int) (o : Option Addr) (n c : Nat) (w : World) : Calls Try.prog 9 #[.pointer none, .agg #[.int .i64 x, .slice o n c]] w fun y w' => y = .returned (.tuple #[.int .i64 0, .bool false]) ∧ Gn w w' := by
  go_enter Try.func9, Try.ntmps9
  go_wp2
  exact bodyPost_ret (v := .tuple #[.int .i64 0, .bool false]) (by simp [results, Try.results9, go_sem]) rfl ⟨rfl, (by with_reducible (repeat (first | exact Gn.refl _ | refine Gn.gr ?_ _ | refine Gn.alloc ?_ _ | refine Gn.drew ?_)))⟩
theorem pick_plain (tb : Nat) (sm : Bool) (ver W : Int) (sv : Value) (x : Int) (o : Option Addr) (n c : Nat) (w : World) (h : TB w tb false sm ver W sv) :
    Calls Try.prog 9 #[.pointer (some ⟨tb, 0, none⟩), .agg #[.int .i64 x, .slice o n c]] w fun y w' => y = .returned (.tuple #[.int .i64 0, .bool false]) ∧ Gn w w' := by
  obtain ⟨tl, ⟨c0, _, _, _, _⟩, _⟩ := h.facts
  go_enter Try.func9, Try.ntmps9
  go_wp2
  exact bodyPost_ret (v := .tuple #[.int .i64 0, .bool false]) (by simp [results, Try.results9, go_sem]) rfl ⟨rfl, (by with_reducible (repeat (first | exact Gn.refl _ | refine Gn.gr ?_ _ | refine Gn.alloc ?_ _ | refine Gn.drew ?_)))⟩

def Bd (l : List B) (ns : Nat → Int) : Prop := ∀ j, j < l.length → -1000000000 ≤ ns j ∧ ns j ≤ 1000000000

set_option maxHeartbeats 4000000 in
set_option maxRecDepth 100000 in
theorem pick_core (tb : Nat) (ver : Int) (v : Value) (l : List B) (ns : Nat → Int) (G : Nat → Prop) (w : World) (W0 : Int) (sm : Bool) (ver0 : Int) (sv0 : Value) (h : TB w tb true sm ver0 W0 sv0)
    (hset : ∀ w', Gn w w' → Calls Try.prog 14 #[.pointer (some ⟨tb, 0, none⟩), .agg #[.int .i64 ver, v]] w' fun e w1 => (∃ y, e = .returned y) ∧ ∃ g, G g ∧ Has w1 tb g l ns ver ∧ Kp (fun j => j = tb) w' w1)
    (hlen : 0 < l.length) (ht : Tame l) (hb : Bd l ns) (hshape : ∃ o n c, v = .slice o n c) :
    Calls Try.prog 9 #[.pointer (some ⟨tb, 0, none⟩), .agg #[.int .i64 ver, v]] w fun y w' => ∃ g, G g ∧ y = .returned (.tuple #[.int .i64 (el l (best l ns)).id, .bool true]) ∧ Has w' tb g l (nx l ns) ver ∧ Kp (fun j => j = tb ∨ j = g) w w' := by
  obtain ⟨o, n, c, rfl⟩ := hshape
  obtain ⟨tl, ⟨c0, _, _, _, _⟩, _⟩ := h.facts
  have HS : Hid _ := hset
  have HBd : Hid _ := hb
  clear hset hb h
  have hll := ht.1
  have hsum := ht.sum l.length (Nat.le_refl _)
  rw [List.take_length] at hsum
  have hd0 : ((l.length : Int) == 0) = false := by rw [beq_eq_false_iff_ne]; omega
  go_enter Try.func9, Try.ntmps9
  go_wp2_with (first | (go_at_call 14; refine (HS.out _ ?_).mono ?_; exact (by with_reducible (repeat (first | exact Gn.refl _ | refine Gn.gr ?_ _ | refine Gn.alloc ?_ _ | refine Gn.drew ?_))); rintro e w1 ⟨⟨y, rfl⟩, g, hG, ⟨cap, hTB, hRow, hgt⟩, hKp⟩; obtain ⟨tl1, ⟨d0, d1, d2, d3, d4⟩, _⟩ := hTB.facts; have H1 : Hid _ := hTB; have H2 : Hid _ := hRow; have H3 : Hid _ := hKp; clear hTB hRow hKp))
  have hg1 : g < w1.heap.size := H2.out.1
  go_loopw [33] (fun i wr => ∃ k : Nat, k ≤ l.length ∧ i = .int .i64 k ∧ TB wr tb true true ver (sumW l) (.slice (some ⟨g, 0, none⟩) l.length cap) ∧ Row wr g l (fun j => if j < k then plus l ns j else ns j) ∧ Kp (fun j => j = g) w1 wr) (fun i _ => l.length - (intOf i).toNat)
  case atStart => exact ⟨0, by omega, rfl, H1.out, Row.congr H2.out (fun j hj => by simp), Kp.refl _ _⟩
  case round =>
    obtain ⟨k, hk, rfl, hTB, hRow, hKp⟩ := hrel
    by_cases hlt : k < l.length
    · obtain ⟨e0, e1, e2, e3, e4, e5, e6, e7⟩ := hRow.2 k hlt
      replace e6 : wr.cell? ⟨g, k * 7 + 6, none⟩ = some (.int .i64 (ns k)) := by simpa using e6
      obtain ⟨tl2, ⟨x0, x1, x2, x3, x4⟩, _⟩ := hTB.facts
      have hgl := hRow.1
      have hi' : (k : Int) < (l.length : Int) := by omega
      have hnk := HBd.out k hlt
      have hwk := ht.2 _ (el_mem hlt)
      have hw : IntKind.i64.wrap (ns k + (el l k).wt) = plus l ns k := by unfold plus; go_ints; trivial
      have J1 : Hid _ := hTB
      have J2 : Hid _ := hRow
      have J3 : Hid _ := hKp
      clear hTB hRow hKp e0 e2 e3 e4 e5 x0 x1 x2 x3 d0 d1 d2 d3 d4 c0
      go_wp2
      go_region_with (fail)
      all_goals
        go_wp2
        go_roundw
        case rel =>
          have kp : Kp (fun j => j = g) wr ((wr.setCell ⟨g, k * 7 + 6, none⟩ (.int .i64 (plus l ns k))).drew) := ((Kp.refl (fun j => j = g) wr).set g _ _ rfl).gn (by with_reducible (repeat (first | exact Gn.refl _ | refine Gn.gr ?_ _ | refine Gn.alloc ?_ _ | refine Gn.drew ?_)))
          refine ⟨k + 1, by omega, by go_num, TB.kept J1.out kp (fun e => hgt e.symm), ?_, Kp.trans J3.out kp⟩
          refine Row.congr (Row.grown (Row.set (show Row wr g l _ from J2.out) hlt (plus l ns k)) (by with_reducible (repeat (first | exact Gn.refl _ | refine Gn.gr ?_ _ | refine Gn.alloc ?_ _ | refine Gn.drew ?_)))) (fun j hj => ?_)
          show (if j = k then plus l ns k else if j < k then plus l ns j else ns j) = if j < k + 1 then plus l ns j else ns j
          by_cases hjk : j = k
          · subst hjk; rw [if_pos rfl, if_pos (by omega)]
          · rw [if_neg hjk]
            by_cases h2 : j < k
            · rw [if_pos h2, if_pos (by omega)]
            · rw [if_neg h2, if_neg (by omega)]
        case measure => simp [intOf]; omega
    · have hge : k = l.length := by omega
      subst hge
      have hRow2 := hRow.congr (ns' := plus l ns) (fun j hj => by rw [if_pos hj])
      obtain ⟨tl2, ⟨x0, x1, x2, x3, x4⟩, _⟩ := hTB.facts
      obtain ⟨e0, e1, e2, e3, e4, e5, e6, e7⟩ := hRow2.2 0 hlen
      have hi' : (0 : Int) < (l.length : Int) := by omega
      have J1 : Hid _ := hTB
      have J2 : Hid _ := hRow2
      have J3 : Hid _ := hKp
      have hgl := hRow2.1
      clear hTB hRow hRow2 hKp d0 d1 d2 d3 d4 c0
      go_wp2
      go_loopw [67, 7] (fun i b w2 => ∃ k : Nat, k ≤ l.length ∧ i = .int .i64 k ∧ b = .pointer (some ⟨g, bst (plus l ns) k * 7, none⟩) ∧ Gn wr w2) (fun i _ _ => l.length - (intOf i).toNat)
      case atStart => exact ⟨0, by omega, rfl, by simp [bst], (by with_reducible (repeat (first | exact Gn.refl _ | refine Gn.gr ?_ _ | refine Gn.alloc ?_ _ | refine Gn.drew ?_)))⟩
      case round =>
        obtain ⟨k, hk, rfl, rfl, q, rfl⟩ := hrel
        clear e0 e1 e2 e3 e4 e5 e6 e7
        obtain ⟨m, hm⟩ : ∃ m, bst (plus l ns) k = m := ⟨_, rfl⟩
        have hml : m < l.length := by
          rcases Nat.eq_zero_or_pos k with rfl | h0
          · rw [← hm]; exact hlen
          · have := bst_lt (plus l ns) h0; omega
        have HM : Hid _ := hm
        rw [hm]
        clear hm
        obtain ⟨r0, _, _, _, _, _, r6, r7⟩ := (show Row wr g l (plus l ns) from J2.out).2 m hml
        by_cases hlt : k < l.length
        · obtain ⟨_, _, _, _, _, _, s6, _⟩ := (show Row wr g l (plus l ns) from J2.out).2 k hlt
          have hik : (k : Int) < (l.length : Int) := by omega
          by_cases hb : plus l ns m < plus l ns k
          · go_wp2
            refine wp_region_gr (by kernel_rfl) (by kernel_rfl) ?_
            repeat (go_big_quiet_step (fail))
            refine wpQuiet_nil ?_
            rintro _ ⟨q4, rfl⟩
            go_wp2
            go_roundw
            case rel => exact ⟨k + 1, by omega, by go_num, by rw [bst, HM.out, if_pos hb], (by with_reducible (repeat (first | exact Gn.refl _ | refine Gn.gr ?_ _ | refine Gn.alloc ?_ _ | refine Gn.drew ?_)))⟩
            case measure => simp [intOf]; omega
          · have hb' : plus l ns k ≤ plus l ns m := by omega
            go_wp2
            refine wp_region_gr (by kernel_rfl) (by kernel_rfl) ?_
            repeat (go_big_quiet_step (fail))
            refine wpQuiet_nil ?_
            rintro _ ⟨q4, rfl⟩
            go_wp2
            go_roundw
            case rel => exact ⟨k + 1, by omega, by go_num, by rw [bst, HM.out, if_neg (by omega)], (by with_reducible (repeat (first | exact Gn.refl _ | refine Gn.gr ?_ _ | refine Gn.alloc ?_ _ | refine Gn.drew ?_)))⟩
            case measure => simp [intOf]; omega
        · have hge : k = l.length := by omega
          subst hge
          have hbm := HBd.out m hml
          have hwm := ht.2 _ (el_mem hml)
          have hpm : plus l ns m = ns m + (el l m).wt := rfl
          have hw : IntKind.i64.wrap (plus l ns m - sumW l) = plus l ns m - sumW l := by go_ints; trivial
          have hbest : best l ns = m := HM.out
          have HB : Hid _ := hbest
          clear hbest hpm
          go_wp2
          go_region_with (fail)
          all_goals
            go_wp2
            have kp : Kp (fun j => j = g) wr ((wr.setCell ⟨g, m * 7 + 6, none⟩ (.int .i64 (plus l ns m - sumW l))).gr ⟨q.d + 1, q.os⟩) := ((Kp.refl (fun j => j = g) wr).set g _ _ rfl).gn (by with_reducible (repeat (first | exact Gn.refl _ | refine Gn.gr ?_ _ | refine Gn.alloc ?_ _ | refine Gn.drew ?_)))
            have r1 : Row ((wr.setCell ⟨g, m * 7 + 6, none⟩ (.int .i64 (plus l ns m - sumW l))).gr ⟨q.d + 1, q.os⟩) g l (nx l ns) := by
              refine Row.congr (Row.grown (Row.set (show Row wr g l (plus l ns) from J2.out) hml (plus l ns m - sumW l)) (by with_reducible (repeat (first | exact Gn.refl _ | refine Gn.gr ?_ _ | refine Gn.alloc ?_ _ | refine Gn.drew ?_)))) (fun j hj => ?_)
              show (if j = m then plus l ns m - sumW l else plus l ns j) = nx l ns j
              unfold nx
              rw [HB.out]
              by_cases hjm : j = m
              · subst hjm; rw [if_pos rfl]
              · rw [if_neg hjm, if_neg hjm]
            have kt : Kp (fun j => j = tb ∨ j = g) w ((wr.setCell ⟨g, m * 7 + 6, none⟩ (.int .i64 (plus l ns m - sumW l))).gr ⟨q.d + 1, q.os⟩) :=
              ((Kp.of_gn _ (show Gn w _ from (by with_reducible (repeat (first | exact Gn.refl _ | refine Gn.gr ?_ _ | refine Gn.alloc ?_ _ | refine Gn.drew ?_))))).trans (H3.out.mono (fun j _ e => .inl e))).trans ((J3.out.trans kp).mono (fun j _ e => .inr e))
            exact bodyPost_ret (v := .tuple #[.int .i64 (el l m).id, .bool true]) (by simp [results, Try.results9, go_sem]) rfl ⟨g, hG, by rw [HB.out], ⟨cap, TB.kept J1.out kp (fun e => hgt e.symm), r1, hgt⟩, kt⟩

theorem pick_same (tb g : Nat) (ver : Int) (v : Value) (l : List B) (ns : Nat → Int) (w : World) (h : Has w tb g l ns ver) (hlen : 0 < l.length) (ht : Tame l) (hb : Bd l ns) (hshape : ∃ o n c, v = .slice o n c) :
    Calls Try.prog 9 #[.pointer (some ⟨tb, 0, none⟩), .agg #[.int .i64 ver, v]] w fun y w' => y = .returned (.tuple #[.int .i64 (el l (best l ns)).id, .bool true]) ∧ Has w' tb g l (nx l ns) ver ∧ Kp (fun j => j = tb ∨ j = g) w w' := by
  have h' := h
  obtain ⟨cap, hTB, _, _⟩ := h'
  refine (pick_core tb ver v l ns (fun j => j = g) w _ _ _ _ hTB (fun w' hg => ?_) hlen ht hb hshape).mono ?_
  · refine (set_same tb ver _ _ v w' (hTB.grown hg)).mono ?_
    rintro e w1 ⟨he, hg1⟩
    exact ⟨he, g, rfl, (h.grown hg).grown hg1, Kp.of_gn _ hg1⟩
  · rintro y w' ⟨g', rfl, h1, h2, h3⟩
    exact ⟨h1, h2, h3⟩

theorem pick_new (tb : Nat) (sm : Bool) (ver0 W0 ver : Int) (sv0 v : Value) (l : List B) (w : World) (h : TB w tb true sm ver0 W0 sv0) (hs : sm = false ∨ ver0 ≠ ver) (hv : SL w v l) (hlen : 0 < l.length) (ht : Tame l) :
    Calls Try.prog 9 #[.pointer (some ⟨tb, 0, none⟩), .agg #[.int .i64 ver, v]] w fun y w' => ∃ g, w.heap.size ≤ g ∧ y = .returned (.tuple #[.int .i64 (el l (best l fun _ => 0)).id, .bool true]) ∧ Has w' tb g l (nx l fun _ => 0) ver ∧ Kp (fun j => j = tb ∨ j = g) w w' := by
  refine pick_core tb ver v l (fun _ => 0) (fun j => w.heap.size ≤ j) w _ _ _ _ h (fun w' hg => ?_) hlen ht (fun j _ => ⟨show (-1000000000 : Int) ≤ 0 by decide, show (0 : Int) ≤ 1000000000 by decide⟩) ?_
  · refine (set_new tb ver0 ver W0 sm sv0 v l w' (h.grown hg) hs (hv.grown hg) ht).mono ?_
    rintro e w1 ⟨he, sv, h1, h2, h3, h4⟩
    have htl := h.lt
    have hsz : w.heap.size ≤ w'.heap.size := (Kp.of_gn (fun _ => False) hg).size
    rw [List.take_length] at h2
    obtain ⟨g, cap, rfl, hgb, _⟩ := h2.form hlen
    have hr := Row.of_own h2
    exact ⟨he, g, by omega, ⟨cap, h1, hr.2, by omega⟩, h3⟩
  · rcases hv with ⟨_, rfl⟩ | ⟨b, off, cap, rfl, _⟩ <;> exact ⟨_, _, _, rfl⟩

set_option maxHeartbeats 1000000 in
theorem pick_none (tb : Nat) (ver : Int) (v : Value) (w : World) (W0 : Int) (sm : Bool) (ver0 : Int) (sv0 : Value) (h : TB w tb true sm ver0 W0 sv0)
    (hset : ∀ w', Gn w w' → Calls Try.prog 14 #[.pointer (some ⟨tb, 0, none⟩), .agg #[.int .i64 ver, v]] w' fun e w1 => (∃ y, e = .returned y) ∧ TB w1 tb true true ver 0 (.slice none 0 0) ∧ Kp (fun j => j = tb) w' w1)
    (hshape : ∃ o n c, v = .slice o n c) :
    Calls Try.prog 9 #[.pointer (some ⟨tb, 0, none⟩), .agg #[.int .i64 ver, v]] w fun y w' => y = .returned (.tuple #[.int .i64 0, .bool false]) ∧ TB w' tb true true ver 0 (.slice none 0 0) ∧ Kp (fun j => j = tb) w w' := by
  obtain ⟨o, n, c, rfl⟩ := hshape
  obtain ⟨tl, ⟨c0, _, _, _, _⟩, _⟩ := h.facts
  have HS : Hid _ := hset
  clear hset h
  go_enter Try.func9, Try.ntmps9
  go_wp2_with (first | (go_at_call 14; refine (HS.out _ ?_).mono ?_; exact (by with_reducible (repeat (first | exact Gn.refl _ | refine Gn.gr ?_ _ | refine Gn.alloc ?_ _ | refine Gn.drew ?_))); rintro e w1 ⟨⟨y, rfl⟩, hTB, hKp⟩; obtain ⟨tl1, ⟨d0, d1, d2, d3, d4⟩, _⟩ := hTB.facts; have H1 : Hid _ := hTB; have H3 : Hid _ := hKp; clear hTB hKp))
  exact bodyPost_ret (v := .tuple #[.int .i64 0, .bool false]) (by simp [results, Try.results9, go_sem]) rfl ⟨rfl, H1.out, (Kp.of_gn _ (show Gn w _ from (by with_reducible (repeat (first | exact Gn.refl _ | refine Gn.gr ?_ _ | refine Gn.alloc ?_ _ | refine Gn.drew ?_))))).trans H3.out⟩
theorem pick_empty (tb : Nat) (sm : Bool) (ver0 W0 ver : Int) (sv0 v : Value) (w : World) (h : TB w tb true sm ver0 W0 sv0) (hs : sm = false ∨ ver0 ≠ ver) (hv : SL w v []) :
    Calls Try.prog 9 #[.pointer (some ⟨tb, 0, none⟩), .agg #[.int .i64 ver, v]] w fun y w' => y = .returned (.tuple #[.int .i64 0, .bool false]) ∧ TB w' tb true true ver 0 (.slice none 0 0) ∧ Kp (fun j => j = tb) w w' := by
  refine pick_none tb ver v w _ _ _ _ h (fun w' hg => ?_) ?_
  · refine (set_new tb ver0 ver W0 sm sv0 v [] w' (h.grown hg) hs (hv.grown hg) ⟨by decide, fun b hb => by simp at hb⟩).mono ?_
    rintro e w1 ⟨he, sv, h1, h2, h3, h4⟩
    refine ⟨he, ?_, h3⟩
    obtain rfl := h4 rfl
    exact h1
  · rcases hv with ⟨_, rfl⟩ | ⟨b, off, cap, rfl, _⟩ <;> exact ⟨_, _, _, rfl⟩
theorem pick_again (tb : Nat) (ver : Int) (v : Value) (w : World) (h : TB w tb true true ver 0 (.slice none 0 0)) (hshape : ∃ o n c, v = .slice o n c) :
    Calls Try.prog 9 #[.pointer (some ⟨tb, 0, none⟩), .agg #[.int .i64 ver, v]] w fun y w' => y = .returned (.tuple #[.int .i64 0, .bool false]) ∧ TB w' tb true true ver 0 (.slice none 0 0) ∧ Kp (fun j => j = tb) w w' := by
  refine pick_none tb ver v w _ _ _ _ h (fun w' hg => ?_) hshape
  refine (set_same tb ver _ _ v w' (h.grown hg)).mono ?_
  rintro e w1 ⟨he, hg1⟩
  exact ⟨he, (h.grown hg).grown hg1, Kp.of_gn _ hg1⟩
end Go.Proofs.Ytidekhhelljjdaa
