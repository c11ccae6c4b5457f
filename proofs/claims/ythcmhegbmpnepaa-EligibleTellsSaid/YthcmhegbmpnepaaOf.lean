/- The contract of Of. -/
import Derived.Test.YthcmhegbmpnepaaHas
import Derived.OwnWalk
import Derived.Laws.AppendOwn
namespace Go.Proofs.Ythcmhegbmpnepaa
open Go.RowKit

theorem info29 : (Try.prog.info? 29).map (fun i => (i.zero, i.size, i.bytes)) = some (some B0.val, 6, 48) := by kernel_rfl
def cellsOf (l : List B) : List Value := l.flatMap B.cells
theorem cellsOf_append (l m : List B) : cellsOf (l ++ m) = cellsOf l ++ cellsOf m := by simp [cellsOf]
theorem cellsOf_length (l : List B) : (cellsOf l).length = l.length * 6 := by
  induction l with
  | nil => rfl
  | cons b l ih => simp only [cellsOf, List.flatMap_cons, List.length_append, List.length_cons] at *; rw [ih]; simp [B.cells]; omega

theorem cellsOf_at : ∀ (l : List B) (k j : Nat), k < l.length → j < 6 → (cellsOf l)[k * 6 + j]? = (el l k).cells[j]?
  | b :: l, 0, j, _, hj => by
    simp only [cellsOf, List.flatMap_cons, Nat.zero_mul, Nat.zero_add]
    rw [List.getElem?_append_left (by simp [B.cells]; omega)]
    rfl
  | b :: l, k + 1, j, hk, hj => by
    have := cellsOf_at l k j (by simpa using hk) hj
    simp only [cellsOf, List.flatMap_cons] at *
    rw [List.getElem?_append_right (by simp [B.cells]; omega)]
    rw [show (k + 1) * 6 + j - b.cells.length = k * 6 + j by simp [B.cells]; omega, this]
    simp [el]

/-- What the call owns reads as a slice. -/
theorem SL.of_own {w : World} {base : Nat} {v : Value} {l : List B} (h : w.ownsRow base 29 6 v l.length (cellsOf l)) : SL w v l := by
  rcases h with ⟨h1, ⟨rfl, h2⟩ | ⟨g, cap, cur, rfl, hb, hg, hn, hm, hs, ht⟩⟩
  · exact .inl ⟨List.length_eq_zero_iff.1 h2, rfl⟩
  · refine .inr ⟨g, 0, cap, rfl, lt_of_block hg, fun k hk => ?_⟩
    have key : ∀ j, j < 6 → w.cell? ⟨g, 0 + k * 6 + j, none⟩ = (el l k).cells[j]? := fun j hj => by
      have h3 := cellsOf_at l k j hk hj
      rw [← ht, List.getElem?_take] at h3
      rw [if_pos (by omega)] at h3
      simp only [World.cell?, hg]
      rw [← h3]
      simp
    exact ⟨key 0 (by omega), key 1 (by omega), key 2 (by omega), key 3 (by omega), key 4 (by omega), key 5 (by omega)⟩

theorem filt_take {l : List B} {k : Nat} (h : k < l.length) : (l.take (k + 1)).filter ok = (l.take k).filter ok ++ (if ok (el l k) then [el l k] else []) := by
  rw [take_el h, List.filter_append]
  congr 1
  simp only [List.filter_cons, List.filter_nil]
theorem filt_len (l : List B) (k : Nat) : ((l.take k).filter ok).length ≤ k := by
  have := List.length_filter_le ok (l.take k)
  have h2 : (l.take k).length ≤ k := by rw [List.length_take]; omega
  omega

theorem own_gn {w w' : World} {base : Nat} {e : TypeId} {size : Nat} {v : Value} {n : Nat} {xs : List Value} (h : w.ownsRow base e size v n xs) (hg : Gn w w') : w'.ownsRow base e size v n xs :=
  h.kept (gb_gn (gb_refl w none) hg) (Classical.em _)
theorem row_new (W : World) (b : B) (n j : Nat) (u : Value) (hn : n = W.heap.size) (hj : b.cells[j]? = some u) :
    (W.alloc (.cells #[.int .i64 b.id, .int .i64 b.wt, .int .i64 b.st, .bool b.v6, .int .u64 b.hi, .int .u64 b.lo] 29)).cell? (Addr.add ⟨n, 0, none⟩ j) = some u := by
  subst hn
  have hadd : Addr.add ⟨W.heap.size, 0, none⟩ j = ⟨W.heap.size, j, none⟩ := by
    unfold Addr.add
    split <;> simp_all
  have : (W.alloc (.cells #[.int .i64 b.id, .int .i64 b.wt, .int .i64 b.st, .bool b.v6, .int .u64 b.hi, .int .u64 b.lo] 29)).heap[W.heap.size]? =
    some (.cells #[.int .i64 b.id, .int .i64 b.wt, .int .i64 b.st, .bool b.v6, .int .u64 b.hi, .int .u64 b.lo] 29) := by
    unfold World.alloc
    simp
  rw [hadd]
  simp only [World.cell?, this]
  rw [← hj]
  simp [B.cells]
theorem own_swap {w : World} {o o' : Obj} {p : Gr} {v : Value} {n : Nat} {xs : List Value} (h : ((w.alloc o).gr p).ownsRow (w.heap.size + 1) 29 6 v n xs) :
    ((w.alloc o').gr p).ownsRow (w.heap.size + 1) 29 6 v n xs := by
  have hl := h.lt
  refine h.kept (row := some w.heap.size) ⟨rfl, rfl, rfl, by simp [size_gr, size_alloc], fun k hk hne => ?_⟩ ?_
  · have : k ≠ w.heap.size := fun e => hne (by rw [e])
    unfold World.gr World.alloc
    simp only [Array.getElem?_append, Array.getElem?_push, Array.size_push, this, if_false]
  · by_cases h0 : v.ownBlock = some w.heap.size
    · have := (hl _ h0).1
      omega
    · exact .inr h0

set_option maxHeartbeats 1600000 in
theorem of_is (v : Value) (l : List B) (x : Int) (w : World) (h : SL w v l) (ht : l.length ≤ 64) :
    Calls Try.prog 7 #[v, .int .i64 x] w fun y w' => ∃ v', y = .returned (.agg #[.int .i64 x, v']) ∧ SL w' v' (l.filter ok) ∧ Gn w w' := by
  rcases h with ⟨rfl, rfl⟩ | ⟨b, off, cap, rfl, hb, hc⟩
  · go_enter Try.func7, Try.ntmps7
    go_wp2
    go_loop [5, 10] (fun u i => u = .slice none 0 0 ∧ i = .int .i64 0) (fun _ _ => 0)
    case atStart => exact ⟨rfl, rfl⟩
    case round =>
      obtain ⟨rfl, rfl⟩ := hrel
      go_wp2
      exact bodyPost_ret (v := .agg #[.int .i64 x, .slice none 0 0]) (by simp [results, Try.results7, go_sem]) rfl ⟨_, rfl, .inl ⟨rfl, rfl⟩, by repeat (first | exact Gn.refl _ | refine Gn.gr ?_ _ | refine Gn.alloc ?_ _)⟩
  · obtain ⟨i0, hi, hz0, hz1, hz2⟩ := info_parts info29
    go_enter Try.func7, Try.ntmps7
    go_wp2
    go_loopw [5, 10] (fun u i wr => ∃ k : Nat, k ≤ l.length ∧ i = .int .i64 k ∧ wr.ownsRow (w.heap.size + 1) 29 6 u ((l.take k).filter ok).length (cellsOf ((l.take k).filter ok)) ∧ Gn (w.alloc (.cells #[.int .i64 0, .slice none 0 0] 31)) wr) (fun _ i _ => l.length - (intOf i).toNat)
    case atStart => exact ⟨0, by omega, rfl, World.ownsRow_nil _ _ _ _, Gn.refl _⟩
    case round =>
      obtain ⟨k, hk, rfl, hown, p, rfl⟩ := hrel
      obtain ⟨o5, n5, c5, rfl⟩ : ∃ o n c, u5 = .slice o n c := by
        rcases hown.2 with ⟨rfl, _⟩ | ⟨_, _, _, rfl, _⟩ <;> exact ⟨_, _, _, rfl⟩
      have hck := hc k
      have hfl := filt_len l k
      go_wp2_with (first
        | (go_at_call 19; refine (may_is (el l k) _).mono ?_; rintro y w' ⟨rfl, q, rfl⟩)
        | (at_builtin; refine wpList_append_own _ rfl _ _ 22 rfl (w.heap.size + 1) 29 i0 B0.val 6 48 Try.underlying22 hi hz0 hz1 hz2 rfl (by decide) _ _ _ rfl (own_gn hown (by repeat (first | exact Gn.refl _ | refine Gn.gr ?_ _ | refine Gn.alloc ?_ _))) ⟨_, 0, none⟩ 1 1 (el l k).cells rfl rfl ?c1 ?c2 ?c3 ?c4 ?c5 ?_))
      case c1 =>
        intro j u hj
        exact row_new _ _ _ _ _ (by simp only [size_gr, size_alloc]) hj
      case c2 => intro u hu; simp [B.cells] at hu; rcases hu with rfl | rfl | rfl | rfl | rfl | rfl <;> rfl
      case c3 => unfold maxLen; omega
      case c4 => omega
      case c5 => simp only [size_gr, size_alloc]; omega
      · intro v' w1 hown' hgrow _
        have hlt : k < l.length := by assumption
        have hok : ok (el l k) = true := by assumption
        have hl := hown.lt
        have e1 := filt_take hlt
        rw [hok, if_pos rfl] at e1
        have hg1 : Gn (w.alloc (.cells #[.int .i64 0, .slice none 0 0] 31)) w1 := Gn.grown (by repeat (first | exact Gn.refl _ | refine Gn.gr ?_ _ | refine Gn.alloc ?_ _)) hgrow (fun b hb => by simp only [size_alloc]; exact (hl b hb).1)
        have ho1 : w1.ownsRow (w.heap.size + 1) 29 6 v' ((l.take (k + 1)).filter ok).length (cellsOf ((l.take (k + 1)).filter ok)) := by
          rw [e1, List.length_append, cellsOf_append]
          exact hown'
        clear hown' hgrow hown hl e1
        go_wp2
        go_roundw
        case rel => exact ⟨k + 1, by omega, by go_num, ho1, hg1⟩
        case measure => simp [intOf]; omega
      · have hlt : k < l.length := by assumption
        have hok : ok (el l k) = false := by assumption
        have e1 := filt_take hlt
        rw [hok, if_neg (by simp), List.append_nil] at e1
        go_roundw
        case rel => exact ⟨k + 1, by omega, by go_num, by rw [e1]; exact own_gn hown (by repeat (first | exact Gn.refl _ | refine Gn.gr ?_ _ | refine Gn.alloc ?_ _)), (by repeat (first | exact Gn.refl _ | refine Gn.gr ?_ _ | refine Gn.alloc ?_ _))⟩
        case measure => simp [intOf]; omega
      · have hge : k = l.length := by omega
        subst hge
        rw [List.take_length] at hown
        exact bodyPost_ret (v := .agg #[.int .i64 x, .slice o5 n5 c5]) (by simp [results, Try.results7, go_sem]) rfl ⟨_, rfl, SL.of_own (own_swap hown), (by repeat (first | exact Gn.refl _ | refine Gn.gr ?_ _ | refine Gn.alloc ?_ _))⟩
end Go.Proofs.Ythcmhegbmpnepaa
