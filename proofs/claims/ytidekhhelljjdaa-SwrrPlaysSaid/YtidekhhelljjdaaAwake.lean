/- The chapter's example returns true. -/
import Derived.Test.YtidekhhelljjdaaState
namespace Go.Proofs.Ytidekhhelljjdaa
open Go.RowKit

theorem own_kp {S : Nat → Prop} {w w' : World} {base : Nat} {e : TypeId} {size : Nat} {v : Value} {n : Nat} {xs : List Value} (h : w.ownsRow base e size v n xs) (hk : Kp S w w') (hs : ∀ j, v.ownBlock = some j → ¬ S j) : w'.ownsRow base e size v n xs := by
  obtain ⟨h1, h2⟩ := h
  refine ⟨h1, ?_⟩
  rcases h2 with h2 | ⟨g, cap, cur, rfl, hb, hg, hr⟩
  · exact .inl h2
  · exact .inr ⟨g, cap, cur, rfl, hb, (hk.block g (lt_of_block hg) (hs g rfl)).trans hg, hr⟩

def X0 (sb rb : Nat) (u : Value) (j : Nat) : Prop := j = sb ∨ j = rb ∨ u.ownBlock = some j
structure Aw (w : World) (tb sb rb : Nat) (k : Nat) (u : Value) (wr : World) : Prop where
  t : Trn w tb L0 k 1 (X0 sb rb u) wr
  own : wr.ownsRow w.heap.size 3 1 u k (ints (ids0.take k))
  e0 : wr.cell? ⟨sb, 0, none⟩ = some (.int .i64 1)
  e1 : wr.cell? ⟨sb, 1, none⟩ = some (.slice (some ⟨rb, 0, none⟩) 3 3)
  cells : Cells wr rb 0 L0
  kp : Kp (fun j => w.heap.size ≤ j) w wr
  ne : sb ≠ tb ∧ rb ≠ tb
  nu : u.ownBlock ≠ some sb ∧ u.ownBlock ≠ some rb

theorem Aw.step {w : World} {tb sb rb k : Nat} {u : Value} {wr w' w1 : World} {g cap : Nat} (h : Aw w tb sb rb k u wr)
    (hT : Trn w tb L0 (k + 1) 1 (X0 sb rb u) w') (hK : Kp (fun j => w.heap.size ≤ j ∧ ¬ X0 sb rb u j) wr w') {o : Obj}
    (hown : w1.ownsRow w.heap.size 3 1 (.slice (some ⟨g, 0, none⟩) (k + 1) cap) (k + 1) (ints (ids0.take k) ++ [.int .i64 (ids0.getD k 0)])) (hk : k < 7)
    (hgrow : (w'.alloc o).grownBy w1 u.ownBlock) (hat : u.ownBlock = some g ∨ g = w'.heap.size + 1) : Aw w tb sb rb (k + 1) (.slice (some ⟨g, 0, none⟩) (k + 1) cap) w1 := by
  have hs1 : sb < wr.heap.size := World.block_lt_of_cell? _ _ h.e0
  have hr1 := h.cells.1
  have hsz := hK.size
  have k1 : Kp (fun j => u.ownBlock = some j) w' w1 := (Kp.of_gn _ (show Gn w' (w'.alloc o) from (by with_reducible (repeat (first | exact Gn.refl _ | refine Gn.gr ?_ _ | refine Gn.alloc ?_ _ | refine Gn.drew ?_))))).trans (Kp.of_gb hgrow (fun j e => e))
  have hsb : ¬ (w.heap.size ≤ sb ∧ ¬ X0 sb rb u sb) := fun hh => hh.2 (.inl rfl)
  have hrb : ¬ (w.heap.size ≤ rb ∧ ¬ X0 sb rb u rb) := fun hh => hh.2 (.inr (.inl rfl))
  refine ⟨?_, ?_, k1.cell (hK.cell h.e0 hsb) h.nu.1, k1.cell (hK.cell h.e1 hsb) h.nu.1, cells_kept (cells_kept h.cells hK hrb) k1 h.nu.2, ?_, h.ne, ?_⟩
  · have t1 : Trn w tb L0 (k + 1) 1 (fun j => X0 sb rb u j ∨ j = g) w' := hT.newX (fun j e => by
      rcases e with e | rfl
      · exact .inl e
      · rcases hat with e | e
        · exact .inl (.inr (.inr e))
        · exact .inr (by omega))
    refine (t1.kept k1 (fun j e => .inl (.inr (.inr e)))).newX (fun j e => .inl ?_)
    rcases e with e | e | e
    · exact .inl (.inl e)
    · exact .inl (.inr (.inl e))
    · exact .inr (by simpa [Value.ownBlock] using e.symm)
  · have e : ints (ids0.take (k + 1)) = ints (ids0.take k) ++ [.int .i64 (ids0.getD k 0)] := by
      match k, hk with
      | 0, _ | 1, _ | 2, _ | 3, _ | 4, _ | 5, _ | 6, _ => rfl
    rw [e]
    exact hown
  · refine (h.kp.trans (hK.mono (fun j _ e => e.1))).trans (k1.mono (fun j _ e => (h.own.lt j e).1))
  · have hg : g ≠ sb ∧ g ≠ rb := by
      rcases hat with e | rfl
      · exact ⟨fun e' => h.nu.1 (e' ▸ e), fun e' => h.nu.2 (e' ▸ e)⟩
      · exact ⟨by omega, by omega⟩
    exact ⟨fun e => hg.1 (by simpa [Value.ownBlock] using e), fun e => hg.2 (by simpa [Value.ownBlock] using e)⟩

def C0 : Obj := .cells #[.int .i64 1, .int .i64 5, .int .i64 0, .bool false, .int .u64 0, .int .u64 0, .int .i64 2, .int .i64 1, .int .i64 0, .bool false, .int .u64 0, .int .u64 0, .int .i64 3, .int .i64 1, .int .i64 0, .bool false, .int .u64 0, .int .u64 0] 29
theorem cells0 (w : World) : Cells (w.alloc C0) w.heap.size 0 L0 := by
  refine ⟨by rw [size_alloc]; omega, fun k hk => ?_⟩
  have h : (w.alloc C0).heap[w.heap.size]? = some C0 := by unfold World.alloc; simp
  have hk3 : k < 3 := hk
  simp only [World.cell?, h]
  match k, hk3 with
  | 0, _ => exact ⟨rfl, rfl, rfl, rfl, rfl, rfl⟩
  | 1, _ => exact ⟨rfl, rfl, rfl, rfl, rfl, rfl⟩
  | 2, _ => exact ⟨rfl, rfl, rfl, rfl, rfl, rfl⟩

theorem tb_new (W : World) : TB (W.alloc (.cells #[.bool false, .bool false, .int .i64 0, .int .i64 0, .slice none 0 0] 50)) W.heap.size false false 0 0 (.slice none 0 0) := heap_alloc_new W _
theorem lit_il (W : World) (n : Nat) (hn : n = W.heap.size) : IL (W.alloc (.cells #[.int .i64 1, .int .i64 1, .int .i64 2, .int .i64 1, .int .i64 3, .int .i64 1, .int .i64 1] 3)) (.slice (some ⟨n, 0, none⟩) 7 7) ids0 := by
  subst hn
  have hb := heap_alloc_new W (.cells #[.int .i64 1, .int .i64 1, .int .i64 2, .int .i64 1, .int .i64 3, .int .i64 1, .int .i64 1] 3)
  refine .inr ⟨_, 7, rfl, lt_of_block hb, fun k hk => ?_⟩
  have hk7 : k < 7 := hk
  simp only [World.cell?, hb]
  match k, hk7 with
  | 0, _ | 1, _ | 2, _ | 3, _ | 4, _ | 5, _ | 6, _ => rfl

set_option maxHeartbeats 4000000 in
set_option maxRecDepth 100000 in
theorem awake_is (w : World) : Calls Try.prog 7 #[] w fun y w' => y = .returned (.bool true) ∧ Gn w w' := by
  obtain ⟨i0, hi, hz0, hz1, hz2⟩ := info_parts info_int
  go_enter Try.func7, Try.ntmps7
  go_wp2_with (first | (go_at_call 8; refine (new_is _).mono ?_; rintro e wn ⟨tb, rfl, hot, hTB, hgn⟩; have H1 : Hid _ := hTB; have H2 : Hid _ := hgn; clear hTB hgn))
  have htl := TB.lt (show TB wn tb true false 0 0 (.slice none 0 0) from H1.out)
  have hsz := (Kp.of_gn (fun _ => False) (show Gn w wn from H2.out)).size
  have hbx := heap_alloc_new (wn.alloc C0) (.cells #[.int .i64 1, .slice (some ⟨wn.heap.size, 0, none⟩) 3 3] 36)
  rw [size_alloc] at hbx
  have haw : Aw w tb (wn.heap.size + 1) wn.heap.size 0 (.slice none 0 0) ((wn.alloc C0).alloc (.cells #[.int .i64 1, .slice (some ⟨wn.heap.size, 0, none⟩) 3 3] 36)) := by
    refine ⟨⟨hot, fun hh => ?_, .inl ⟨rfl, TB.grown (show TB wn tb true false 0 0 (.slice none 0 0) from H1.out) (by with_reducible (repeat (first | exact Gn.refl _ | refine Gn.gr ?_ _ | refine Gn.alloc ?_ _ | refine Gn.drew ?_)))⟩⟩, World.ownsRow_nil _ _ _ _, ?_, ?_, (cells0 wn).grown (by with_reducible (repeat (first | exact Gn.refl _ | refine Gn.gr ?_ _ | refine Gn.alloc ?_ _ | refine Gn.drew ?_))), (Kp.of_gn _ (show Gn w wn from H2.out)).gn (by with_reducible (repeat (first | exact Gn.refl _ | refine Gn.gr ?_ _ | refine Gn.alloc ?_ _ | refine Gn.drew ?_))), ⟨by omega, by omega⟩, by simp [Value.ownBlock], by simp [Value.ownBlock]⟩
    · rcases hh with e | e | e
      · omega
      · omega
      · simp [Value.ownBlock] at e
    · simp only [World.cell?, hbx]; rfl
    · simp only [World.cell?, hbx]; rfl
  have HA : Hid _ := haw
  clear haw hbx
  generalize hsb : wn.heap.size + 1 = sb at *
  generalize hrb : wn.heap.size = rb at *
  go_loopw [3, 4] (fun u i wr => ∃ k : Nat, k ≤ 7 ∧ i = .int .i64 k ∧ Aw w tb sb rb k u wr) (fun _ i _ => 7 - (intOf i).toNat)
  case atStart => exact ⟨0, by omega, rfl, HA.out⟩
  case round =>
    obtain ⟨k, hk, rfl, haw⟩ := hrel
    obtain ⟨o5, n5, c5, rfl⟩ : ∃ o n c, u3 = .slice o n c := by
      rcases haw.own.2 with ⟨rfl, _⟩ | ⟨_, _, _, rfl, _⟩ <;> exact ⟨_, _, _, rfl⟩
    by_cases hlt : k < 7
    · have e0 := haw.e0
      have e1 := haw.e1
      have hsl := World.block_lt_of_cell? _ _ e0
      have hii : (k : Int) < 7 := by omega
      have hp := trn_pick (v := .slice (some ⟨rb, 0, none⟩) 3 3) haw.t (.inr ⟨rb, 0, 3, rfl, haw.cells⟩) haw.kp.size (fun j e => by
        rcases e with rfl | rfl | e
        · exact hsl
        · exact haw.cells.1
        · exact (haw.own.lt j e).2) (by decide) tame0 wt0 (by decide)
      rw [id0 hlt] at hp
      have HP : Hid _ := hp
      have HW : Hid _ := haw
      clear hp haw
      go_wp2_with (first
        | (go_at_call 9; refine Calls.mono HP.out ?_; rintro y w' ⟨rfl, hT, hK⟩; have HT : Hid _ := hT; have HK : Hid _ := hK; clear hT hK)
        | (at_builtin; refine wpList_append_lies _ rfl _ _ 32 rfl w.heap.size 3 i0 (.int .i64 0) 1 8 Try.underlying32 hi hz0 hz1 hz2 rfl (by decide) (.slice o5 n5 c5) k (ints (ids0.take k)) rfl
            (own_gn (own_kp (Aw.own HW.out) HK.out (fun j e hh => hh.2 (.inr (.inr e)))) (by with_reducible (repeat (first | exact Gn.refl _ | refine Gn.gr ?_ _ | refine Gn.alloc ?_ _ | refine Gn.drew ?_)))) ⟨_, 0, none⟩ 1 1 [.int .i64 (ids0.getD k 0)] rfl rfl (fun j u hj => by exact row_int _ _ _ _ _ rfl hj) (by intro u hu; simp at hu; rcases hu with rfl; rfl) (by omega) (by unfold maxLen; omega) (by omega) (by have := (Aw.kp HW.out).size; have := (HK.out).size; simp only [size_alloc]; omega) _ rfl ?_; intro g cap w1 hown1 hgrow hat hlt1))
      go_roundw
      case rel => exact ⟨k + 1, by omega, by go_num, Aw.step HW.out HT.out HK.out hown1 hlt hgrow (by simpa only [size_alloc] using hat)⟩
      case measure => simp [intOf]; omega
    · have hge : k = 7 := by omega
      subst hge
      have e0 := haw.e0
      have e1 := haw.e1
      have hsl := World.block_lt_of_cell? _ _ e0
      have HW : Hid _ := haw
      clear haw
      have htb : tb < wr.heap.size := (Aw.t HW.out).lt
      obtain ⟨Wt, svt, htb7⟩ : ∃ Wt svt, TB wr tb true true 1 Wt svt := by
        obtain ⟨_, _, ⟨h7, _⟩ | ⟨g, ⟨cap, h, _⟩, _, _⟩⟩ := Aw.t HW.out
        · omega
        · exact ⟨_, _, h⟩
      have HT : Hid _ := htb7
      have hu : (Value.slice o5 n5 c5).ownBlock ≠ some tb := fun e => (Aw.t HW.out).2.1 (.inr (.inr e))
      have HO : Hid (wr.ownsRow w.heap.size 3 1 (.slice o5 n5 c5) 7 (ints ids0)) := Aw.own HW.out
      clear htb7
      have t1 : Hid True := trivial
      have t2 : Hid True := trivial
      go_wp2_with (first
        | (go_at_call 9; clear t1; refine (pick_nil _ _ _ _ _).mono ?_; rintro y w' ⟨rfl, q, rfl⟩)
        | (go_at_call 9; clear t2; refine (pick_plain _ false 0 0 (.slice none 0 0) _ _ _ _ _ (TB.grown (tb_new wr) (by with_reducible (repeat (first | exact Gn.refl _ | refine Gn.gr ?_ _ | refine Gn.alloc ?_ _ | refine Gn.drew ?_))))).mono ?_; rintro y w' ⟨rfl, q, rfl⟩)
        | (go_at_call 9; refine (pick_empty tb true 1 Wt 0 svt _ _ (TB.grown (show TB wr tb true true 1 Wt svt from HT.out) (by with_reducible (repeat (first | exact Gn.refl _ | refine Gn.gr ?_ _ | refine Gn.alloc ?_ _ | refine Gn.drew ?_)))) (.inr (by decide)) (.inl ⟨rfl, rfl⟩)).mono ?_; rintro y w' ⟨rfl, hT, hK⟩; have HK : Hid _ := hK; clear hT hK)
        | (go_at_call 12; refine (sameints_is _ _ ids0 _ (IL.grown (IL.of_own (own_kp (own_gn HO.out (by with_reducible (repeat (first | exact Gn.refl _ | refine Gn.gr ?_ _ | refine Gn.alloc ?_ _ | refine Gn.drew ?_)))) HK.out (fun j e hh => hu (by rw [e, hh])))) (by with_reducible (repeat (first | exact Gn.refl _ | refine Gn.gr ?_ _ | refine Gn.alloc ?_ _ | refine Gn.drew ?_)))) (lit_il _ _ rfl) (by decide)).mono ?_; rintro y w2 ⟨rfl, q2, rfl⟩)
        | (go_at_call 10; refine (numbers_nil _).mono ?_; rintro y w2 ⟨rfl, q3, rfl⟩))
      go_ret
      have kk := (Aw.kp HW.out).trans (((Kp.of_gn _ (show Gn wr _ from (by with_reducible (repeat (first | exact Gn.refl _ | refine Gn.gr ?_ _ | refine Gn.alloc ?_ _ | refine Gn.drew ?_))))).trans (HK.out)).mono (S' := fun j => w.heap.size ≤ j) (fun j _ e => by subst e; exact (Aw.t HW.out).1))
      exact ⟨rfl, (kk.gn (c := _) (by with_reducible (repeat (first | exact Gn.refl _ | refine Gn.gr ?_ _ | refine Gn.alloc ?_ _ | refine Gn.drew ?_)))).to_gn (fun _ h => h)⟩
end Go.Proofs.Ytidekhhelljjdaa
