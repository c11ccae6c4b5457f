/- New, Nth, List; rows of numbers. -/
import Derived.Test.YtoaefmnjndklkaaDoorN47
import Derived.Deep.AppendLies
import Derived.OwnWalk
namespace Go.Proofs.YtoaefmnjndklkaaDoor
open Go.RowKit

theorem info3 : (Tryd.prog.info? 3).map (fun i => (i.zero, i.size, i.bytes)) = some (some (.int .i64 0), 1, 8) := by kernel_rfl
theorem info46 : (Tryd.prog.info? 46).map (fun i => (i.zero, i.size, i.bytes)) = some (some (.int .u64 0), 1, 8) := by kernel_rfl
/-- append of what stands in the cells from a on, to a row of the call's own. -/
theorem wpList_append_row {w : World} {ops : Array Oper} {rest : List Oper} {o : Oper} {a : Act} {Q : Exit → Act → World → Prop} (hgd : o.guard = none) (s x : Operand) (T e : TypeId) (z : Value) (size bytes : Nat) (hT : Tryd.prog.underlying T = some (.slice e))
    (hi : (Tryd.prog.info? e).map (fun i => (i.zero, i.size, i.bytes)) = some (some z, size, bytes)) (hzs : z.cells.size = size) (hsz : 0 < size)
    (ho : o.op = .call { callee := .builtin .append, args := #[s, x], argTypes := #[T, T] })
    (v : Value) (n : Nat) (xs : List Value) (hs : a.eval s = v) (hown : w.ownsRow 0 e size v n xs) (b : Nat) (ys : List Value) (hx : a.eval x = .slice (some ⟨b, 0, none⟩) 1 1) (hl : ys.length = size)
    (hr : ∀ k, k < size → w.cell? ⟨b, k, none⟩ = ys[k]?) (h1 : ∀ u ∈ ys, u.oneCell' = true) (hbd : n + 1 ≤ 1000000) (hby : bytes ≤ 1000)
    (h : ∀ v' w', w'.ownsRow 0 e size v' (n + 1) (xs ++ ys) → w.grownBy w' v.ownBlock → (v'.ownBlock = v.ownBlock ∨ v'.ownBlock = some w.heap.size) → wpList Tryd.prog ops Q rest (a.put o.dst v') w') : wpList Tryd.prog ops Q (o :: rest) a w :=
  wpList_plain hgd fun _ hK => by
    obtain ⟨i0, hi0, hz0, hz1, hz2⟩ := info_parts hi
    have hadd : ∀ j, Addr.add ⟨b, 0, none⟩ j = ⟨b, j, none⟩ := fun j => by unfold Addr.add; split <;> simp_all
    obtain ⟨v', w', hrun, h2, h3, _, h5⟩ := run_append_own_at (P := Tryd.prog) w 0 T o.type e i0 z size bytes hT hi0 hz0 hz1 hz2 hzs hsz v n xs hown ⟨b, 0, none⟩ 1 1 ys (by omega)
      (fun j u hu => by
        have hj : j < size := by
          rcases Nat.lt_or_ge j size with h | h
          · exact h
          · rw [List.getElem?_eq_none (by omega)] at hu; cases hu
        rw [hadd, hr j hj]
        exact hu) h1 (by unfold maxLen; omega) (by have := Nat.mul_le_mul hbd hby; omega) (Nat.zero_le _)
    have hh := hK _ _ (h v' w' h2 h3 h5)
    unfold Oper.wp execOp
    simp only [ho, resolve, invoke, builtin, Sem.run_bind, Sem.run_pure, Result.andThen_ok, List.map_toArray, List.map_cons, List.map_nil, hs, hx, hrun]
    exact hh
theorem own_some {w : World} {base : Nat} {e : TypeId} {size : Nat} {v : Value} {n : Nat} {xs : List Value} (h : w.ownsRow base e size v n xs) (hn : 0 < n) : ∃ g cap, v = .slice (some ⟨g, 0, none⟩) n cap := by
  rcases h with ⟨_, ⟨_, h2⟩ | ⟨g, cap, _, e, _⟩⟩
  · omega
  · exact ⟨g, cap, e⟩
theorem own_gn {w w' : World} {base : Nat} {e : TypeId} {size : Nat} {v : Value} {n : Nat} {xs : List Value} (h : w.ownsRow base e size v n xs) (hg : Gn w w') : w'.ownsRow base e size v n xs :=
  own_kp h (Kp.of_gn (fun _ => False) hg) (fun _ _ e => e)
/-- The cells of numbers. -/
def nus (l : List Int) : List Value := l.map fun n => Value.int .i64 n
def il (l : List Int) (k : Nat) : Int := (l[k]?).getD 0
/-- v is a row of numbers, in blocks from base on. -/
def IR (w : World) (base : Nat) (v : Value) (l : List Int) : Prop := w.ownsRow 0 3 1 v l.length (nus l) ∧ ∀ k, v.ownBlock = some k → base ≤ k
section
variable {w w' : World} {base : Nat} {v : Value} {l : List Int}
theorem IR.gn (h : IR w base v l) (hg : Gn w w') : IR w' base v l := ⟨own_gn h.1 hg, h.2⟩
theorem IR.kp {S : Nat → Prop} (h : IR w base v l) (hk : Kp S w w') (hs : ∀ k, v.ownBlock = some k → ¬ S k) : IR w' base v l := ⟨own_kp h.1 hk hs, h.2⟩
theorem IR.lower {b : Nat} (h : IR w base v l) (hb : b ≤ base) : IR w b v l := ⟨h.1, fun k e => Nat.le_trans hb (h.2 k e)⟩
theorem IR.shape (h : IR w base v l) : ∃ o c, v = .slice o l.length c := by
  rcases h.1.2 with ⟨e, h0⟩ | ⟨g, cap, _, e, _⟩
  · exact ⟨_, _, by rw [e, h0]⟩
  · exact ⟨_, _, e⟩
theorem IR.nil (w : World) (base : Nat) : IR w base (.slice none 0 0) [] := ⟨World.ownsRow_nil _ _ _ _, fun k e => by cases e⟩
theorem IR.facts (h : IR w base v l) {k : Nat} (hk : k < l.length) : ∃ g cap, v = .slice (some ⟨g, 0, none⟩) l.length cap ∧ g < w.heap.size ∧ w.cell? ⟨g, k, none⟩ = some (.int .i64 (il l k)) := by
  obtain ⟨g, cap, rfl⟩ := own_some h.1 (by omega)
  refine ⟨g, cap, rfl, (h.1.lt g rfl).2, ?_⟩
  rw [h.1.cellAt k (by omega)]
  simp [nus, il, hk]
theorem one_row (w : World) (x : Int) (k : Nat) (hk : k < 1) : (w.alloc (.cells #[.int .i64 x] 3)).cell? ⟨w.heap.size, k, none⟩ = [Value.int .i64 x][k]? := by
  unfold World.cell?
  rw [heap_alloc_new]
  simp
/-- append of one number. -/
theorem wpList_append_nu {ops : Array Oper} {rest : List Oper} {o : Oper} {a : Act} {Q : Exit → Act → World → Prop} (hgd : o.guard = none) (s x : Operand)
    (ho : o.op = .call { callee := .builtin .append, args := #[s, x], argTypes := #[36, 36] }) {w0 : World} (base : Nat) (v : Value) (l : List Int) (n : Int) (hs : a.eval s = v) (hown : IR w base v l) (hw : w0.alloc (.cells #[.int .i64 n] 3) = w) (hx : a.eval x = .slice (some ⟨w0.heap.size, 0, none⟩) 1 1) (hb : base ≤ w0.heap.size) (hbd : l.length ≤ 100000)
    (h : ∀ v' w', IR w' base v' (l ++ [n]) → (∀ b, b.heap.size ≤ base → Gn b w0 → Gn b w') → wpList Tryd.prog ops Q rest (a.put o.dst v') w') : wpList Tryd.prog ops Q (o :: rest) a w := by
  subst hw
  refine wpList_append_row hgd s x 36 3 (.int .i64 0) 1 8 Tryd.underlying36 info3 rfl (by omega) ho v l.length (nus l) hs hown.1 w0.heap.size [.int .i64 n] hx rfl (one_row w0 n) (by simp [Value.oneCell']) (by omega) (by omega) ?_
  intro v' w' h1 h2 h3
  refine h v' w' ⟨?_, ?_⟩ (fun b hbb hgn => (hgn.alloc _).grown h2 (fun k e => Nat.le_trans hbb (hown.2 k e)))
  · have e1 : (l ++ [n]).length = l.length + 1 := by simp
    have e2 : nus (l ++ [n]) = nus l ++ [.int .i64 n] := by simp [nus]
    rw [e1, e2]; exact h1
  · intro k e
    rcases h3 with h3 | h3
    · rw [h3] at e; exact hown.2 k e
    · rw [h3, size_alloc] at e; cases e; omega
end
/-- Numbers, as ints. -/
def ints (l : List Nat) : List Int := l.map fun (n : Nat) => (n : Int)
theorem ints_take (l : List Nat) (k : Nat) : ints (l.take k) = (ints l).take k := by unfold ints; rw [List.map_take]
theorem ints_len (l : List Nat) : (ints l).length = l.length := by simp [ints]

theorem tab_gn {w w' : World} (h : TabAt 0 Lib.deBruijn64tab w) (hg : Gn w w') : TabAt 0 Lib.deBruijn64tab w' := fun j hj => gn_cell hg (h j hj)
theorem nth_neg (w : World) (sb : Nat) (k : Int) (hk : k < 0) : Calls Tryd.prog 9 #[.pointer (some ⟨sb, 0, none⟩), .int .i64 k] w fun e w' => e = .returned (.int .i64 (-1)) ∧ w = w' := by
  go_enter Tryd.func9, Tryd.ntmps9
  go_wp2
  go_ret
  exact ⟨rfl, rfl⟩
theorem nth_at (w : World) (sb g N : Nat) (m : Nat → Bool) (K : Nat) (h : ST w sb g N m) (hN : N ≤ 4096) (hT : TabAt 0 Lib.deBruijn64tab w) (hK : K ≤ 9223372036854775807) :
    Calls Tryd.prog 9 #[.pointer (some ⟨sb, 0, none⟩), .int .i64 (K : Int)] w fun e w' => e = .returned (.int .i64 (ati (lst m N) K)) ∧ w = w' := by
  have H0 : Hid (Calls Tryd.prog 11 #[.pointer (some ⟨sb, 0, none⟩), .int .i64 0] w fun e w' => e = .returned (.int .i64 (ati (lst m N) 0)) ∧ w = w') := by
    have := next_zero w sb g N m h hN hT
    rw [ati_first] at this
    exact this
  have HX : Hid (∀ (n : Int), n ≤ 9223372036854775807 → Calls Tryd.prog 11 #[.pointer (some ⟨sb, 0, none⟩), .int .i64 n] w fun e w' => e = .returned (.int .i64 (nx m N n.toNat)) ∧ w = w') := fun n hn => next_any w sb g N m n h hN hT hn
  have HL : Hid (∀ a ∈ lst m N, a < 4096) := fun a ha => by have := (lst_mem.1 ha).1; omega
  have HA : Hid (∀ t a, (lst m N)[t]? = some a → nx m N (a + 1) = ati (lst m N) (t + 1)) := fun t a e => ati_next e
  clear h hT
  generalize lst m N = l at *
  have hk0 : ¬ (K : Int) < 0 := by omega
  go_enter Tryd.func9, Tryd.ntmps9
  go_wp2_with (go_at_call 11; refine Calls.mono H0.out ?_; rintro _ _ ⟨rfl, rfl⟩)
  go_loop [1, 5] (fun kv n => ∃ t j : Nat, t + j = K ∧ kv = .int .i64 (j : Nat) ∧ n = .int .i64 (ati l t)) (fun kv _ => (intOf kv).toNat)
  case atStart => exact ⟨0, K, by omega, rfl, rfl⟩
  case round =>
    obtain ⟨t, j, htj, rfl, rfl⟩ := hrel
    cases j with
    | zero =>
      obtain rfl : t = K := by omega
      have hz : ¬ (0 : Int) < ((0 : Nat) : Int) := by omega
      go_wp2
      go_ret
      exact ⟨rfl, rfl⟩
    | succ j =>
      have hj1 : (0 : Int) < ((j + 1 : Nat) : Int) := by omega
      have hj2 : ((j + 1 : Nat) : Int) - 1 = (j : Int) := by omega
      have hj3 : j + 1 ≤ 9223372036854775807 := by omega
      by_cases hl : t < l.length
      · obtain ⟨a, ha, hat⟩ := ati_some hl
        have ha4 := HL.out a (List.mem_of_getElem? ha)
        have HN : Hid (nx m N (a + 1) = ati l (t + 1)) := HA.out t a ha
        have HC : Hid (Calls Tryd.prog 11 #[.pointer (some ⟨sb, 0, none⟩), .int .i64 ((a : Int) + 1)] w fun e w' => e = .returned (.int .i64 (ati l (t + 1))) ∧ w = w') := by
          have := HX.out ((a : Int) + 1) (by omega)
          have e : ((a : Int) + 1).toNat = a + 1 := by omega
          rw [e, HN.out] at this
          exact this
        have ha0 : (0 : Int) ≤ (a : Int) := by omega
        rw [hat]
        clear ha hat
        go_wp2_with (go_at_call 11; refine Calls.mono HC.out ?_; rintro _ _ ⟨rfl, rfl⟩)
        go_round
        case rel => exact ⟨t + 1, j, by omega, by go_num, rfl⟩
        case measure => simp [intOf]
      · have h1 : ati l t = -1 := ati_none (by omega)
        have HE : Hid (ati l K = -1) := ati_none (by omega)
        rw [h1]
        clear h1
        go_wp2
        go_ret
        rw [HE.out]
        exact ⟨rfl, rfl⟩
theorem list_any (w : World) (sb g N : Nat) (m : Nat → Bool) (h : ST w sb g N m) (hN : N ≤ 4096) (hT : TabAt 0 Lib.deBruijn64tab w) :
    Calls Tryd.prog 20 #[.pointer (some ⟨sb, 0, none⟩)] w fun e w' => ∃ v, e = .returned v ∧ IR w' w.heap.size v (ints (lst m N)) ∧ Gn w w' := by
  have H0 : Hid (Calls Tryd.prog 11 #[.pointer (some ⟨sb, 0, none⟩), .int .i64 0] w fun e w' => e = .returned (.int .i64 (ati (lst m N) 0)) ∧ w = w') := by
    have := next_zero w sb g N m h hN hT
    rw [ati_first] at this
    exact this
  have HX : Hid (∀ (n : Int) w', Gn w w' → n ≤ 9223372036854775807 → Calls Tryd.prog 11 #[.pointer (some ⟨sb, 0, none⟩), .int .i64 n] w' fun e w'' => e = .returned (.int .i64 (nx m N n.toNat)) ∧ w' = w'') := fun n w' hg hn => next_any w' sb g N m n (h.gn hg) hN (tab_gn hT hg) hn
  have HL : Hid (∀ a ∈ lst m N, a < 4096) := fun a ha => by have := (lst_mem.1 ha).1; omega
  have HA : Hid (∀ t a, (lst m N)[t]? = some a → nx m N (a + 1) = ati (lst m N) (t + 1)) := fun t a e => ati_next e
  have hlen : (lst m N).length ≤ 4096 := by
    have := cnt_le m N
    rw [lst_len]; omega
  clear h hT
  generalize lst m N = l at *
  go_enter Tryd.func20, Tryd.ntmps20
  go_wp2_with (go_at_call 11; refine Calls.mono H0.out ?_; rintro _ _ ⟨rfl, rfl⟩)
  go_loopw [3, 4] (fun u n wr => ∃ t : Nat, t ≤ l.length ∧ n = .int .i64 (ati l t) ∧ IR wr w.heap.size u (ints (l.take t)) ∧ Gn w wr) (fun u _ _ => l.length + 1 - (match u with | .slice _ n _ => n | _ => 0))
  case atStart => exact ⟨0, by omega, rfl, IR.nil _ _, Gn.refl _⟩
  case round =>
    obtain ⟨t, ht, rfl, hI, hg⟩ := hrel
    obtain ⟨o3, c3, rfl⟩ := hI.shape
    have hl3 : (ints (l.take t)).length = t := by rw [ints_len, List.length_take]; omega
    have HI : Hid (IR wr w.heap.size (.slice o3 (ints (l.take t)).length c3) (ints (l.take t))) := hI
    have HG : Hid (Gn w wr) := hg
    have hws := hg.size
    clear hI hg
    by_cases hl : t < l.length
    · obtain ⟨a, ha, hat⟩ := ati_some hl
      have ha4 := HL.out a (List.mem_of_getElem? ha)
      have HN : Hid (nx m N (a + 1) = ati l (t + 1)) := HA.out t a ha
      have HC : Hid (∀ w', Gn w w' → Calls Tryd.prog 11 #[.pointer (some ⟨sb, 0, none⟩), .int .i64 ((a : Int) + 1)] w' fun e w'' => e = .returned (.int .i64 (ati l (t + 1))) ∧ w' = w'') := fun w' hg => by
        have := HX.out ((a : Int) + 1) w' hg (by omega)
        have e : ((a : Int) + 1).toNat = a + 1 := by omega
        rw [e, HN.out] at this
        exact this
      have HTK : Hid (ints (l.take (t + 1)) = ints (l.take t) ++ [(a : Int)]) := by
        show _ = _
        rw [List.take_add_one, ha]
        simp [ints]
      have ha0 : (0 : Int) ≤ (a : Int) := by omega
      have hbd : (ints (l.take t)).length ≤ 100000 := by omega
      rw [hat]
      clear ha hat
      go_wp2_with (first | (at_builtin; refine wpList_append_nu rfl _ _ rfl w.heap.size _ (ints (l.take t)) (a : Int) rfl (HI.out.gn ((Gn.refl _).alloc _)) rfl rfl hws hbd ?_; intro v2 w2 h1 h2; have H1 : Hid (IR w2 w.heap.size v2 (ints (l.take t) ++ [(a : Int)])) := h1; have HG2 : Hid (Gn w w2) := h2 w (Nat.le_refl _) HG.out; clear h1 h2) | (go_at_call 11; refine Calls.mono (HC.out _ HG2.out) ?_; rintro _ _ ⟨rfl, rfl⟩))
      go_roundw
      case rel => exact ⟨t + 1, by omega, rfl, by rw [HTK.out]; exact H1.out, HG2.out⟩
      case measure =>
        obtain ⟨o4, c4, rfl⟩ := H1.out.shape
        simp only [List.length_append, List.length_cons, List.length_nil]
        omega
    · obtain rfl : t = l.length := by omega
      have h1 : ati l l.length = -1 := ati_none (by omega)
      have HTA : Hid (l.take l.length = l) := List.take_length
      rw [h1]
      clear h1
      go_wp2
      go_ret
      rw [HTA.out] at HI ⊢
      exact ⟨_, rfl, HI.out, HG.out⟩
theorem new_bad (w : World) (n : Int) (h : n < 0 ∨ 4096 < n) :
    Calls Tryd.prog 6 #[.int .i64 n] w fun e w' => e = .returned (.pointer none) ∧ w = w' := by
  go_enter Tryd.func6, Tryd.ntmps6
  by_cases h0 : n < 0
  · go_wp2
    go_ret
    exact ⟨rfl, rfl⟩
  · have h1 : 4096 < n := by omega
    have h2 : 0 ≤ n := by omega
    clear h h0
    go_wp2
    go_ret
    exact ⟨rfl, rfl⟩
end Go.Proofs.YtoaefmnjndklkaaDoor
