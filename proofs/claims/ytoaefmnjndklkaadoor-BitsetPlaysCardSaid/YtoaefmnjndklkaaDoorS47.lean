/- A set in the world; may, Has. -/
import Derived.Test.YtoaefmnjndklkaaDoorF47
import Derived.Test.YtoaefmnjndklkaaDoorQ47
import Derived.Laws.BitsAllLaws
import Derived.Laws.OwnMore
import Derived.BigQuiet
import Derived.IntWalk
import Derived.StillTailTactics
namespace Go.Proofs.YtoaefmnjndklkaaDoor
open Go.RowKit

theorem own_kp {w w' : World} {S : Nat → Prop} {base : Nat} {e : TypeId} {size : Nat} {v : Value} {n : Nat} {xs : List Value} (h : w.ownsRow base e size v n xs) (hk : Kp S w w') (hs : ∀ k, v.ownBlock = some k → ¬ S k) : w'.ownsRow base e size v n xs := by
  rcases h with ⟨h1, h2 | ⟨g, cap, cur, hv, hbg, hg, r⟩⟩
  · exact ⟨h1, .inl h2⟩
  · subst hv
    exact ⟨h1, .inr ⟨g, cap, cur, rfl, hbg, (hk.block g (lt_of_block hg) (hs g rfl)).trans hg, r⟩⟩
def wds (ws : List Nat) : List Value := ws.map fun (n : Nat) => Value.int .u64 n
/-- Block sb is a set: its size N, its row of words in block g; it has the numbers m. -/
def ST (w : World) (sb g N : Nat) (m : Nat → Bool) : Prop :=
  ∃ cap ws, w.heap[sb]? = some (.cells #[.int .i64 N, .slice (some ⟨g, 0, none⟩) (N / 64 + 1) cap] 45 (0, 0)) ∧ w.ownsRow 0 46 1 (.slice (some ⟨g, 0, none⟩) (N / 64 + 1) cap) (N / 64 + 1) (wds ws) ∧ ws.length = N / 64 + 1 ∧ WM ws m ∧ (∀ j, m j = true → j < N) ∧ sb ≠ g
section
variable {w w' : World} {sb g N : Nat} {m : Nat → Bool}
theorem ST.kept {S : Nat → Prop} (h : ST w sb g N m) (hk : Kp S w w') (h1 : ¬ S sb) (h2 : ¬ S g) : ST w' sb g N m := by
  obtain ⟨cap, ws, hb, hr, r⟩ := h
  exact ⟨cap, ws, (hk.block sb (lt_of_block hb) h1).trans hb, own_kp hr hk (fun k e => by cases e; exact h2), r⟩
theorem ST.gn (h : ST w sb g N m) (hg : Gn w w') : ST w' sb g N m := h.kept (Kp.of_gn (fun _ => False) hg) (fun e => e) (fun e => e)
theorem ST.lt (h : ST w sb g N m) : sb < w.heap.size ∧ g < w.heap.size := by
  obtain ⟨cap, ws, hb, hr, r⟩ := h
  exact ⟨lt_of_block hb, (hr.lt g rfl).2⟩
theorem ST.ne (h : ST w sb g N m) : sb ≠ g := by
  obtain ⟨cap, ws, hb, hr, _, _, _, r⟩ := h
  exact r
theorem ST.bound (h : ST w sb g N m) {j : Nat} (hj : m j = true) : j < N := by
  obtain ⟨cap, ws, hb, hr, _, _, r, _⟩ := h
  exact r j hj
theorem ST.out (h : ST w sb g N m) {j : Nat} (hj : N ≤ j) : m j = false := by
  cases e : m j with
  | false => rfl
  | true => have := h.bound e; omega
theorem ST.c0 (h : ST w sb g N m) : w.cell? ⟨sb, 0, none⟩ = some (.int .i64 N) := by
  obtain ⟨cap, ws, hb, _⟩ := h
  unfold World.cell?; rw [hb]; rfl
/-- What the cells hold. -/
theorem ST.cells (h : ST w sb g N m) : ∃ cap ws, w.cell? ⟨sb, 1, none⟩ = some (.slice (some ⟨g, 0, none⟩) (N / 64 + 1) cap) ∧ N / 64 + 1 ≤ cap ∧ (∀ i, i < N / 64 + 1 → w.cell? ⟨g, i, none⟩ = some (.int .u64 (wn ws i : Nat)) ∧ w.frozen? ⟨g, i, none⟩ = false) ∧ ws.length = N / 64 + 1 ∧ WM ws m := by
  obtain ⟨cap, ws, hb, hr, hl, hm, _⟩ := h
  refine ⟨cap, ws, ?_, ?_, fun i hi => ⟨?_, hr.frozenAt i⟩, hl, hm⟩
  · unfold World.cell?; rw [hb]; rfl
  · obtain ⟨_, h1 | ⟨_, _, _, h1, _, _, h2, _⟩⟩ := hr
    · simp at h1
    · cases h1; exact h2
  · rw [hr.cellAt i (by omega)]
    unfold wds wn
    rw [List.getElem?_map, List.getElem?_eq_getElem (by omega)]
    rfl
end
theorem may_yes (w : World) (sb g N : Nat) (m : Nat → Bool) (n : Int) (h : ST w sb g N m) (h0 : 0 ≤ n) (h1 : n < N) :
    Calls Tryd.prog 24 #[.pointer (some ⟨sb, 0, none⟩), .int .i64 n] w fun e w' => e = .returned (.bool true) ∧ w = w' := by
  have c0 := h.c0
  have hl := h.lt.1
  clear h
  go_enter Tryd.func24, Tryd.ntmps24
  go_wp2
  go_ret
  exact ⟨rfl, rfl⟩
theorem may_no (w : World) (sb g N : Nat) (m : Nat → Bool) (n : Int) (h : ST w sb g N m) (h1 : n < 0 ∨ N ≤ n) :
    Calls Tryd.prog 24 #[.pointer (some ⟨sb, 0, none⟩), .int .i64 n] w fun e w' => e = .returned (.bool false) ∧ w = w' := by
  have c0 := h.c0
  have hl := h.lt.1
  clear h
  by_cases hn : n < 0
  · have hn2 : ¬ (0 ≤ n) := by omega
    clear h1
    go_enter Tryd.func24, Tryd.ntmps24
    go_wp2
    go_ret
    exact ⟨rfl, rfl⟩
  · have hn2 : 0 ≤ n := by omega
    have hn3 : ¬ n < (N : Int) := by omega
    clear h1 hn
    go_enter Tryd.func24, Tryd.ntmps24
    go_wp2
    go_ret
    exact ⟨rfl, rfl⟩
def hasB (m : Nat → Bool) (n : Int) : Bool := decide (0 ≤ n) && m n.toNat
theorem has_no (w : World) (sb g N : Nat) (m : Nat → Bool) (n : Int) (h : ST w sb g N m) (h1 : n < 0 ∨ N ≤ n) :
    Calls Tryd.prog 8 #[.pointer (some ⟨sb, 0, none⟩), .int .i64 n] w fun e w' => e = .returned (.bool false) ∧ w = w' := by
  have H : Hid (ST w sb g N m) := h
  clear h
  go_enter Tryd.func8, Tryd.ntmps8
  go_wp2_with (go_at_call 24; refine Calls.mono (may_no w sb g N m n H.out h1) ?_; rintro _ _ ⟨rfl, rfl⟩)
  go_ret
  exact ⟨rfl, rfl⟩
theorem bit_eq (x b : Nat) (hx : x < 18446744073709551616) : (bits BinOp.and IntKind.u64 ((x : Int) / 2 ^ b) 1 == 1) = x.testBit b := by
  have e : (x : Int) / 2 ^ b = ((x / 2 ^ b : Nat) : Int) := by simp
  have hlt : x / 2 ^ b < 18446744073709551616 := Nat.lt_of_le_of_lt (Nat.div_le_self _ _) hx
  rw [e, show (1 : Int) = ((1 : Nat) : Int) from rfl, and_nat _ _ hlt (by omega), Nat.testBit_eq_decide_div_mod_eq, Nat.and_one_is_mod]
  by_cases h : x / 2 ^ b % 2 = 1
  · rw [h]; rfl
  · have h0 : x / 2 ^ b % 2 = 0 := by omega
    rw [h0]; rfl
theorem has_in (w : World) (sb g N : Nat) (m : Nat → Bool) (p : Nat) (h : ST w sb g N m) (hN : N ≤ 4096) (h1 : p < N) :
    Calls Tryd.prog 8 #[.pointer (some ⟨sb, 0, none⟩), .int .i64 (p : Int)] w fun e w' => e = .returned (.bool (m p)) ∧ w = w' := by
  have H : Hid (ST w sb g N m) := h
  obtain ⟨cap, ws, c1, hcap, hc, hl, hm⟩ := h.cells
  obtain ⟨sl, gl⟩ := h.lt
  clear h
  obtain ⟨i, hi⟩ : ∃ i, p / 64 = i := ⟨_, rfl⟩
  obtain ⟨b, hb⟩ : ∃ b, p % 64 = b := ⟨_, rfl⟩
  obtain ⟨L, hL⟩ : ∃ L, N / 64 + 1 = L := ⟨_, rfl⟩
  have hiL : i < L := by omega
  have hb64 : b < 64 := by omega
  rw [hL] at c1 hcap hc hl
  obtain ⟨ci, _⟩ := hc i hiL
  obtain ⟨hx, ht⟩ := hm i (by omega)
  have htb := ht b hb64
  have hp : 64 * i + b = p := by omega
  rw [hp] at htb
  generalize wn ws i = x at *
  have q1 : (p : Int) / 64 = (i : Int) := by omega
  have q2 : (p : Int) % 64 = (b : Int) := by omega
  have hL65 : L ≤ 65 := by omega
  have hi65 : i ≤ 64 := by omega
  have q3 : (i : Int) < (L : Int) := by omega
  have q4 : (0 : Int) ≤ (i : Int) := by omega
  have HT : Hid (x.testBit b = m p) := htb
  clear hi hb hL hc hl hm ht htb hp hN hcap
  have h2 : (0 : Int) ≤ (p : Int) := by omega
  have h3 : (p : Int) < (N : Int) := by omega
  go_enter Tryd.func8, Tryd.ntmps8
  go_wp2_with (go_at_call 24; refine Calls.mono (may_yes w sb g N m p H.out h2 h3) ?_; rintro _ _ ⟨rfl, rfl⟩)
  go_ret
  exact ⟨bool_ret ((bit_eq x b hx).trans HT.out), rfl⟩
theorem has_any (w : World) (sb g N : Nat) (m : Nat → Bool) (n : Int) (h : ST w sb g N m) (hN : N ≤ 4096) :
    Calls Tryd.prog 8 #[.pointer (some ⟨sb, 0, none⟩), .int .i64 n] w fun e w' => e = .returned (.bool (hasB m n)) ∧ w = w' := by
  by_cases hn : 0 ≤ n ∧ n < N
  · obtain ⟨p, rfl⟩ : ∃ p : Nat, n = p := ⟨n.toNat, by omega⟩
    have e : hasB m (p : Int) = m p := by unfold hasB; rw [decide_eq_true hn.1]; rfl
    rw [e]
    exact has_in w sb g N m p h hN (by omega)
  · have e : hasB m n = false := by
      unfold hasB
      by_cases h0 : 0 ≤ n
      · rw [h.out (by omega)]; simp
      · rw [decide_eq_false h0]; rfl
    rw [e]
    exact has_no w sb g N m n h (by omega)
theorem wn_set {ws : List Nat} {i x k : Nat} (hi : i < ws.length) : wn (ws.set i x) k = if k = i then x else wn ws k := by
  unfold wn
  by_cases e : k = i
  · subst e; rw [if_pos rfl, List.getElem?_set_self hi]; rfl
  · rw [if_neg e, List.getElem?_set_ne (fun h => e h.symm)]
/-- A word was stored. -/
theorem ST.set {w : World} {sb g N : Nat} {m m' : Nat → Bool} (h : ST w sb g N m) {i x : Nat} (hi : i < N / 64 + 1) (hx : x < 18446744073709551616) (hb : ∀ j, j < 64 → x.testBit j = m' (64 * i + j)) (ho : ∀ j, j / 64 ≠ i → m' j = m j) (hN : ∀ j, m' j = true → j < N) :
    ST (w.setCell ⟨g, i, none⟩ (.int .u64 (x : Nat))) sb g N m' ∧ Kp (fun k => k = g) w (w.setCell ⟨g, i, none⟩ (.int .u64 (x : Nat))) := by
  obtain ⟨cap, ws, hbk, hr, hl, hm, _, hne⟩ := h
  have hK : Kp (fun k => k = g) w (w.setCell ⟨g, i, none⟩ (.int .u64 (x : Nat))) := (Kp.refl _ w).set g i _ rfl
  refine ⟨⟨cap, ws.set i x, (hK.block sb (lt_of_block hbk) hne).trans hbk, ?_, by simpa using hl, fun k hk => ?_, hN, hne⟩, hK⟩
  · have h2 := (hr.stored i (.int .u64 (x : Nat))).1
    have e : wds (ws.set i x) = (wds ws).set i (.int .u64 (x : Nat)) := by unfold wds; rw [List.map_set]
    rw [e]
    exact h2
  · rw [List.length_set] at hk
    rw [wn_set (by omega)]
    by_cases e : k = i
    · subst e; rw [if_pos rfl]; exact ⟨hx, hb⟩
    · rw [if_neg e]
      refine ⟨(hm k hk).1, fun j hj => ?_⟩
      rw [(hm k hk).2 j hj, ho _ (by omega)]
def putM (m : Nat → Bool) (p : Nat) : Nat → Bool := fun j => m j || decide (j = p)
def cutM (m : Nat → Bool) (p : Nat) : Nat → Bool := fun j => m j && !decide (j = p)
theorem two_lt {b : Nat} (hb : b < 64) : 2 ^ b < 18446744073709551616 := Nat.pow_lt_pow_right (by omega) hb
theorem wrap_two {b : Nat} (hb : b < 64) : IntKind.u64.wrap ((2 : Int) ^ b) = ((2 ^ b : Nat) : Int) := by
  have e : (2 : Int) ^ b = ((2 ^ b : Nat) : Int) := by simp
  rw [e]
  exact u64_in _ (two_lt hb)
theorem or_eq {x b : Nat} (hx : x < 18446744073709551616) (hb : b < 64) : bits BinOp.or IntKind.u64 (x : Int) (IntKind.u64.wrap (2 ^ b)) = ((x ||| 2 ^ b : Nat) : Int) := by
  rw [wrap_two hb, bits_or_u64_nat x _ hx (two_lt hb)]
theorem andNot_eq {x b : Nat} (hx : x < 18446744073709551616) (hb : b < 64) : bits BinOp.andNot IntKind.u64 (x : Int) (IntKind.u64.wrap (2 ^ b)) = ((x &&& (18446744073709551615 - 2 ^ b) : Nat) : Int) := by
  rw [wrap_two hb, u64_andNot_nat x _ hx (two_lt hb)]
theorem not_bit {y j : Nat} (hy : y < 18446744073709551616) (hj : j < 64) : (18446744073709551615 - y).testBit j = !y.testBit j := by
  have e : 18446744073709551615 - y = 2 ^ 64 - (y + 1) := by omega
  rw [e, Nat.testBit_two_pow_sub_succ (by omega)]
  simp [hj]
theorem put_yes (w : World) (sb g N : Nat) (m : Nat → Bool) (p : Nat) (h : ST w sb g N m) (hN : N ≤ 4096) (h1 : p < N) (hmp : m p = false) :
    Calls Tryd.prog 7 #[.pointer (some ⟨sb, 0, none⟩), .int .i64 (p : Int)] w fun e w' => e = .returned (.bool true) ∧ ST w' sb g N (putM m p) ∧ Kp (fun k => k = g) w w' := by
  have H : Hid (ST w sb g N m) := h
  have HH : Hid (Calls Tryd.prog 8 #[.pointer (some ⟨sb, 0, none⟩), .int .i64 (p : Int)] w fun e w' => e = .returned (.bool false) ∧ w = w') := by
    have := has_in w sb g N m p h hN h1
    rw [hmp] at this
    exact this
  obtain ⟨cap, ws, c1, hcap, hc, hl, hm⟩ := h.cells
  obtain ⟨sl, gl⟩ := h.lt
  have hne := h.ne
  clear h
  obtain ⟨i, hi⟩ : ∃ i, p / 64 = i := ⟨_, rfl⟩
  obtain ⟨b, hb⟩ : ∃ b, p % 64 = b := ⟨_, rfl⟩
  obtain ⟨L, hL⟩ : ∃ L, N / 64 + 1 = L := ⟨_, rfl⟩
  have hiL : i < L := by omega
  have hiN : Hid (i < N / 64 + 1) := by show _ < _; omega
  have hb64 : b < 64 := by omega
  rw [hL] at c1 hcap hc hl
  obtain ⟨ci, fi⟩ := hc i hiL
  obtain ⟨hx, ht⟩ := hm i (by omega)
  have hp : Hid (64 * i + b = p) := by show _ = _; omega
  generalize wn ws i = x at *
  have q1 : (p : Int) / 64 = (i : Int) := by omega
  have q2 : (p : Int) % 64 = (b : Int) := by omega
  have hL65 : L ≤ 65 := by omega
  have hi65 : i ≤ 64 := by omega
  have q3 : (i : Int) < (L : Int) := by omega
  have q4 : (0 : Int) ≤ (i : Int) := by omega
  have HT : Hid (∀ j, j < 64 → x.testBit j = m (64 * i + j)) := ht
  clear hi hb hL hc hl hm ht hN hcap
  have h2 : (0 : Int) ≤ (p : Int) := by omega
  have h3 : (p : Int) < (N : Int) := by omega
  go_enter Tryd.func7, Tryd.ntmps7
  go_wp2_with (first | (go_at_call 24; refine Calls.mono (may_yes w sb g N m p H.out h2 h3) ?_; rintro _ _ ⟨rfl, rfl⟩) | (go_at_call 8; refine Calls.mono HH.out ?_; rintro _ _ ⟨rfl, rfl⟩))
  have q5 : IntKind.i64.wrap (i : Int) = (i : Int) := IntWalk.i64_in _ (by omega)
  have q7 : (p : Int).tmod 64 = (b : Int) := by rw [Int.tmod_eq_emod_of_nonneg h2]; exact q2
  have q8 : (0 : Int) ≤ (b : Int) := by omega
  have q6 : IntKind.i64.wrap (b : Int) = (b : Int) := IntWalk.i64_in _ (by omega)
  go_still_tail 13, (by kernel_rfl)
  change wpList _ _ _ _ _ w.drew
  go_wp2
  go_ret
  rw [or_eq hx hb64]
  have hs := H.out.set (m' := putM m p) (x := x ||| 2 ^ b) hiN.out (Nat.or_lt_two_pow (n := 64) hx (two_lt hb64)) (fun j hj => by
    have := hp.out
    rw [Nat.testBit_or, HT.out j hj, Nat.testBit_two_pow]
    unfold putM
    have e : (64 * i + j = p) = (b = j) := by simp only [eq_iff_iff]; omega
    simp only [e]) (fun j hj => by
    have := hp.out
    unfold putM
    have e : decide (j = p) = false := decide_eq_false (by omega)
    rw [e, Bool.or_false]) (fun j hj => by
    unfold putM at hj
    simp only [Bool.or_eq_true, decide_eq_true_eq] at hj
    rcases hj with hj | rfl
    · exact H.out.bound hj
    · exact h1)
  exact ⟨rfl, hs.1.gn (Gn.refl _).drew, hs.2.gn (Gn.refl _).drew⟩
theorem put_no (w : World) (sb g N : Nat) (m : Nat → Bool) (n : Int) (h : ST w sb g N m) (hN : N ≤ 4096) (h1 : n < 0 ∨ N ≤ n ∨ m n.toNat = true) :
    Calls Tryd.prog 7 #[.pointer (some ⟨sb, 0, none⟩), .int .i64 n] w fun e w' => e = .returned (.bool false) ∧ w = w' := by
  have H : Hid (ST w sb g N m) := h
  by_cases hn : n < 0 ∨ N ≤ n
  · clear h h1
    go_enter Tryd.func7, Tryd.ntmps7
    go_wp2_with (go_at_call 24; refine Calls.mono (may_no w sb g N m n H.out hn) ?_; rintro _ _ ⟨rfl, rfl⟩)
    go_ret
    exact ⟨rfl, rfl⟩
  · obtain ⟨p, rfl⟩ : ∃ p : Nat, n = p := ⟨n.toNat, by omega⟩
    have h2 : (0 : Int) ≤ (p : Int) := by omega
    have h3 : (p : Int) < (N : Int) := by omega
    have HM : Hid (Calls Tryd.prog 8 #[.pointer (some ⟨sb, 0, none⟩), .int .i64 (p : Int)] w fun e w' => e = .returned (.bool true) ∧ w = w') := by
      have := has_in w sb g N m p h hN (by omega)
      have hmp : m p = true := (h1.resolve_left (by omega)).resolve_left (by omega)
      rw [hmp] at this
      exact this
    clear h h1 hn
    go_enter Tryd.func7, Tryd.ntmps7
    go_wp2_with (first | (go_at_call 24; refine Calls.mono (may_yes w sb g N m p H.out h2 h3) ?_; rintro _ _ ⟨rfl, rfl⟩) | (go_at_call 8; refine Calls.mono HM.out ?_; rintro _ _ ⟨rfl, rfl⟩))
    go_ret
    exact ⟨rfl, rfl⟩
theorem cut_yes (w : World) (sb g N : Nat) (m : Nat → Bool) (p : Nat) (h : ST w sb g N m) (hN : N ≤ 4096) (h1 : p < N) (hmp : m p = true) :
    Calls Tryd.prog 32 #[.pointer (some ⟨sb, 0, none⟩), .int .i64 (p : Int)] w fun e w' => e = .returned (.bool true) ∧ ST w' sb g N (cutM m p) ∧ Kp (fun k => k = g) w w' := by
  have H : Hid (ST w sb g N m) := h
  have HH : Hid (Calls Tryd.prog 8 #[.pointer (some ⟨sb, 0, none⟩), .int .i64 (p : Int)] w fun e w' => e = .returned (.bool true) ∧ w = w') := by
    have := has_in w sb g N m p h hN h1
    rw [hmp] at this
    exact this
  obtain ⟨cap, ws, c1, hcap, hc, hl, hm⟩ := h.cells
  obtain ⟨sl, gl⟩ := h.lt
  have hne := h.ne
  clear h
  obtain ⟨i, hi⟩ : ∃ i, p / 64 = i := ⟨_, rfl⟩
  obtain ⟨b, hb⟩ : ∃ b, p % 64 = b := ⟨_, rfl⟩
  obtain ⟨L, hL⟩ : ∃ L, N / 64 + 1 = L := ⟨_, rfl⟩
  have hiL : i < L := by omega
  have hiN : Hid (i < N / 64 + 1) := by show _ < _; omega
  have hb64 : b < 64 := by omega
  rw [hL] at c1 hcap hc hl
  obtain ⟨ci, fi⟩ := hc i hiL
  obtain ⟨hx, ht⟩ := hm i (by omega)
  have hp : Hid (64 * i + b = p) := by show _ = _; omega
  generalize wn ws i = x at *
  have q1 : (p : Int) / 64 = (i : Int) := by omega
  have q2 : (p : Int) % 64 = (b : Int) := by omega
  have hL65 : L ≤ 65 := by omega
  have hi65 : i ≤ 64 := by omega
  have q3 : (i : Int) < (L : Int) := by omega
  have q4 : (0 : Int) ≤ (i : Int) := by omega
  have HT : Hid (∀ j, j < 64 → x.testBit j = m (64 * i + j)) := ht
  clear hi hb hL hc hl hm ht hN hcap
  have h2 : (0 : Int) ≤ (p : Int) := by omega
  have h3 : (p : Int) < (N : Int) := by omega
  go_enter Tryd.func32, Tryd.ntmps32
  go_wp2_with ((go_at_call 8; refine Calls.mono HH.out ?_; rintro _ _ ⟨rfl, rfl⟩))
  have q5 : IntKind.i64.wrap (i : Int) = (i : Int) := IntWalk.i64_in _ (by omega)
  have q7 : (p : Int).tmod 64 = (b : Int) := by rw [Int.tmod_eq_emod_of_nonneg h2]; exact q2
  have q8 : (0 : Int) ≤ (b : Int) := by omega
  have q6 : IntKind.i64.wrap (b : Int) = (b : Int) := IntWalk.i64_in _ (by omega)
  go_still_tail 13, (by kernel_rfl)
  change wpList _ _ _ _ _ w.drew
  go_wp2
  go_ret
  rw [andNot_eq hx hb64]
  have hs := H.out.set (m' := cutM m p) (x := x &&& (18446744073709551615 - 2 ^ b)) hiN.out (Nat.lt_of_le_of_lt Nat.and_le_left hx) (fun j hj => by
    have := hp.out
    rw [Nat.testBit_and, HT.out j hj, not_bit (two_lt hb64) hj, Nat.testBit_two_pow]
    unfold cutM
    have e : (64 * i + j = p) = (b = j) := by simp only [eq_iff_iff]; omega
    simp only [e]) (fun j hj => by
    have := hp.out
    unfold cutM
    have e : decide (j = p) = false := decide_eq_false (by omega)
    rw [e, Bool.not_false, Bool.and_true]) (fun j hj => by
    unfold cutM at hj
    simp only [Bool.and_eq_true] at hj
    exact H.out.bound hj.1)
  exact ⟨rfl, hs.1.gn (Gn.refl _).drew, hs.2.gn (Gn.refl _).drew⟩
theorem cut_no (w : World) (sb g N : Nat) (m : Nat → Bool) (n : Int) (h : ST w sb g N m) (hN : N ≤ 4096) (h1 : hasB m n = false) :
    Calls Tryd.prog 32 #[.pointer (some ⟨sb, 0, none⟩), .int .i64 n] w fun e w' => e = .returned (.bool false) ∧ w = w' := by
  have H := has_any w sb g N m n h hN
  rw [h1] at H
  have HM : Hid (Calls Tryd.prog 8 #[.pointer (some ⟨sb, 0, none⟩), .int .i64 n] w fun e w' => e = .returned (.bool false) ∧ w = w') := H
  clear h h1 H
  go_enter Tryd.func32, Tryd.ntmps32
  go_wp2_with (go_at_call 8; refine Calls.mono HM.out ?_; rintro _ _ ⟨rfl, rfl⟩)
  go_ret
  exact ⟨rfl, rfl⟩
end Go.Proofs.YtoaefmnjndklkaaDoor
