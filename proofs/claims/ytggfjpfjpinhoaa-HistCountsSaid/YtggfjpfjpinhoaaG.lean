/- Appending to rows of the call's own; the reference's Good. -/
import Derived.Test.YtggfjpfjpinhoaaP2
import Derived.Maps.AppendAt
import Derived.Deep.AppendLies
namespace Go.Proofs.Ytggfjpfjpinhoaa
open Go.RowKit

theorem info_int : (Try.prog.info? 3).map (fun i => (i.zero, i.size, i.bytes)) = some (some (.int .i64 0), 1, 8) := by kernel_rfl
def ints (l : List Int) : List Value := l.map (Value.int .i64)
theorem ints_append (l m : List Int) : ints (l ++ m) = ints l ++ ints m := by simp [ints]
theorem ints_at {l : List Int} {k : Nat} (h : k < l.length) : (ints l)[k]? = some (.int .i64 (ia l k)) := by simp [ints, ia, h]
theorem own_gn {w w' : World} {base : Nat} {e : TypeId} {size : Nat} {v : Value} {n : Nat} {xs : List Value} (h : w.ownsRow base e size v n xs) (hg : Gn w w') : w'.ownsRow base e size v n xs :=
  h.kept (gb_gn (gb_refl w none) hg) (Classical.em _)
theorem own_base {w : World} {b1 b2 : Nat} {e : TypeId} {size : Nat} {v : Value} {n : Nat} {xs : List Value} (h : w.ownsRow b2 e size v n xs) (hb : b1 ≤ b2) : w.ownsRow b1 e size v n xs := by
  rcases h with ⟨h1, h2 | ⟨g, cap, cur, hv, hbg, hg⟩⟩
  · exact ⟨h1, .inl h2⟩
  · exact ⟨h1, .inr ⟨g, cap, cur, hv, by omega, hg⟩⟩
theorem own_ia {w : World} {base : Nat} {v : Value} {l : List Int} (h : w.ownsRow base 3 1 v l.length (ints l)) : IA w v l := by
  rcases h with ⟨h1, ⟨rfl, h2⟩ | ⟨g, cap, cur, rfl, hb, hg, hn, hm, hs, ht⟩⟩
  · exact .inl ⟨List.length_eq_zero_iff.1 h2, _, _, rfl⟩
  · refine .inr ⟨g, 0, cap, rfl, lt_of_block hg, fun k hk => ?_⟩
    have h3 := ints_at hk
    rw [← ht, List.getElem?_take] at h3
    rw [if_pos (by omega)] at h3
    simp only [World.cell?, hg, Nat.zero_add]
    rw [← h3]
    simp
/-- The form of a row of numbers. -/
theorem own_form {w : World} {base : Nat} {v : Value} {l : List Int} (h : w.ownsRow base 3 1 v l.length (ints l)) : (l = [] ∧ v = .slice none 0 0) ∨ ∃ g cap, v = .slice (some ⟨g, 0, none⟩) l.length cap ∧ l.length ≤ cap ∧ base ≤ g ∧ g < w.heap.size ∧ ∀ k, k < l.length → w.cell? ⟨g, k, none⟩ = some (.int .i64 (ia l k)) := by
  have hi := own_ia h
  rcases h with ⟨h1, ⟨rfl, h2⟩ | ⟨g, cap, cur, rfl, hb, hg, hn, hm, hs, ht⟩⟩
  · exact .inl ⟨List.length_eq_zero_iff.1 h2, rfl⟩
  · refine .inr ⟨g, cap, rfl, by omega, hb, lt_of_block hg, fun k hk => ?_⟩
    rcases hi with ⟨rfl, _⟩ | ⟨b, off, cap', e, hr⟩
    · simp at hk
    · cases e
      have := hr.2 k hk
      simpa using this

/-- append of what a slice value holds. -/
theorem run_append_gen (w : World) (base : Nat) (ty : TypeId) (v : Value) (n : Nat) (xs : List Value) (hown : w.ownsRow base 3 1 v n xs) (A : Option Addr) (m c : Nat) (ys : List Int) (hm : m = ys.length)
    (hr : 0 < m → ∃ b off, A = some ⟨b, off, none⟩ ∧ ∀ k, k < m → w.cell? ⟨b, off + k, none⟩ = some (.int .i64 (ia ys k))) (hbd : n + m ≤ 1000000) (hbase : base ≤ w.heap.size) :
    ∃ v' w', (Builtin.append_ #[22, 22] ty #[v, .slice A m c]).run Try.prog w = .ok v' w' ∧ w'.ownsRow base 3 1 v' (n + m) (xs ++ ints ys) ∧ w.grownBy w' v.ownBlock := by
  obtain ⟨i0, hi, hz0, hz1, hz2⟩ := info_parts info_int
  have hone : ∀ u ∈ ints ys, u.oneCell' = true := by
    intro u hu
    simp only [ints, List.mem_map] at hu
    obtain ⟨x, _, rfl⟩ := hu
    rfl
  rcases Nat.eq_zero_or_pos m with h0 | hpos
  · have hy : ys = [] := List.eq_nil_of_length_eq_zero (by omega)
    subst hy
    simp only [List.length_nil] at hm
    subst hm
    rcases A with _ | ad
    · refine ⟨v, w, ?_, by simpa [ints] using hown, gb_refl w _⟩
      rcases hown.2 with ⟨rfl, rfl⟩ | ⟨g, cap, cur, rfl, _, _, hnc, _⟩
      · simp [Builtin.append_, run_underlying Try.underlying22, sizeOf, typeInfo, hi, Builtin.lenOf, Builtin.firstCells]
      · simp [Builtin.append_, run_underlying Try.underlying22, sizeOf, typeInfo, hi, Builtin.lenOf, Builtin.firstCells, hnc, storeCells]
    · obtain ⟨v', w', hrun, h2, h3, _, _⟩ := run_append_own_at (P := Try.prog) w base 22 ty 3 i0 (.int .i64 0) 1 8 Try.underlying22 hi hz0 hz1 hz2 rfl (by decide) v n xs hown ad 0 c [] rfl (fun j u hu => by simp at hu) (fun u hu => by simp at hu) (by unfold maxLen; omega) (by omega) hbase
      exact ⟨v', w', hrun, by simpa [ints] using h2, h3⟩
  · obtain ⟨b, off, rfl, hc⟩ := hr hpos
    have hadd : ∀ j, Addr.add ⟨b, off, none⟩ j = ⟨b, off + j, none⟩ := fun j => by unfold Addr.add; split <;> simp_all
    obtain ⟨v', w', hrun, h2, h3, _, _⟩ := run_append_own_at (P := Try.prog) w base 22 ty 3 i0 (.int .i64 0) 1 8 Try.underlying22 hi hz0 hz1 hz2 rfl (by decide) v n xs hown ⟨b, off, none⟩ m c (ints ys) (by simp [ints, hm])
      (fun j u hu => by
        have hj : j < m := by
          rcases Nat.lt_or_ge j m with h | h
          · exact h
          · rw [List.getElem?_eq_none (by simp [ints]; omega)] at hu; cases hu
        rw [hadd, hc j hj]
        rw [ints_at (by omega)] at hu
        exact hu) hone (by unfold maxLen; omega) (by omega) hbase
    exact ⟨v', w', hrun, h2, h3⟩
theorem wpList_append_gen {w : World} {ops : Array Oper} {rest : List Oper} {o : Oper} {a : Act} {Q : Exit → Act → World → Prop} (hgd : o.guard = none) (s x : Operand)
    (ho : o.op = .call { callee := .builtin .append, args := #[s, x], argTypes := #[22, 22] })
    (base : Nat) (v : Value) (n : Nat) (xs : List Value) (hs : a.eval s = v) (hown : w.ownsRow base 3 1 v n xs) (A : Option Addr) (m c : Nat) (ys : List Int) (hx : a.eval x = .slice A m c) (hm : m = ys.length)
    (hr : 0 < m → ∃ b off, A = some ⟨b, off, none⟩ ∧ ∀ k, k < m → w.cell? ⟨b, off + k, none⟩ = some (.int .i64 (ia ys k))) (hbd : n + m ≤ 1000000) (hbase : base ≤ w.heap.size)
    (h : ∀ v' w', w'.ownsRow base 3 1 v' (n + m) (xs ++ ints ys) → w.grownBy w' v.ownBlock → wpList Try.prog ops Q rest (a.put o.dst v') w') : wpList Try.prog ops Q (o :: rest) a w :=
  wpList_plain hgd fun _ hK => by
    obtain ⟨v', w', hrun, h2, h3⟩ := run_append_gen w base o.type v n xs hown A m c ys hm hr hbd hbase
    have hh := hK _ _ (h v' w' h2 h3)
    unfold Oper.wp execOp
    simp only [ho, resolve, invoke, builtin, Sem.run_bind, Sem.run_pure, Result.andThen_ok, List.map_toArray, List.map_cons, List.map_nil, hs, hx, hrun]
    exact hh
theorem own_far {w w' : World} {base : Nat} {v : Value} {n : Nat} {xs : List Value} (h : w.ownsRow base 3 1 v n xs) {a : World} (hg : Gn a w) (hb : a.heap.size ≤ base) (hgr : w.grownBy w' v.ownBlock) : Gn a w' :=
  hg.grown hgr (fun k e => by have := (h.lt k e).1; omega)

theorem ia_drop (s : List Int) (j i : Nat) : ia (s.drop j) i = ia s (j + i) := by simp [ia, List.getElem?_drop]
theorem cell1 (W : World) (x : Int) (n : Nat) (hn : n = W.heap.size) : (W.alloc (.cells #[.int .i64 x] 3)).cell? ⟨n, 0 + 0, none⟩ = some (.int .i64 x) := by
  subst hn
  have hb := heap_alloc_new W (.cells #[.int .i64 x] 3)
  unfold World.cell?
  rw [hb]
  rfl
set_option maxHeartbeats 4000000 in
theorem good_any (v : Value) (l : List Int) (w : World) (hv : IA w v l) (hlen : l.length ≤ 200) :
    Calls Try.prog 8 #[v] w fun e w' => ∃ v', e = .returned v' ∧ w'.ownsRow w.heap.size 3 1 v' (good l).length (ints (good l)) ∧ Gn w w' := by
  obtain ⟨o, c, rfl⟩ := hv.shape
  have HV : Hid _ := hv
  clear hv
  go_enter Try.func8, Try.ntmps8
  go_wp2
  go_loopw [3, 4] (fun u i wr => ∃ k : Nat, k ≤ l.length ∧ i = .int .i64 k ∧ wr.ownsRow w.heap.size 3 1 u (good (l.take k)).length (ints (good (l.take k))) ∧ Gn w wr) (fun _ i _ => l.length - (intOf i).toNat)
  case atStart => exact ⟨0, by omega, rfl, World.ownsRow_nil _ _ _ _, Gn.refl _⟩
  case round =>
    obtain ⟨k, hk, rfl, hown, hg⟩ := hrel
    by_cases hlt : k < l.length
    · have hva := IA.kept HV.out (Kp.of_gn (fun _ => False) hg) (fun _ e => e.elim)
      obtain ⟨b, off, rfl, hbl, hr⟩ := hva.row (by omega)
      have cr := hr k hlt
      have hki : (k : Int) < (l.length : Int) := by omega
      have hgl : (good (l.take k)).length ≤ k := by
        rw [(good_perm _).length_eq]; exact Nat.le_trans (pos_len _) (List.length_take_le _ _)
      obtain ⟨x, hx⟩ : ∃ x, ia l k = x := ⟨_, rfl⟩
      obtain ⟨s, hs⟩ : ∃ s, good (l.take k) = s := ⟨_, rfl⟩
      have hsn : good (l.take (k + 1)) = if x < 0 then s else ins x s := by rw [take_ia hlt, good_snoc, hx, hs]
      rw [hx] at cr
      rw [hs] at hown hgl
      have HSN : Hid _ := hsn
      have HO : Hid _ := hown
      have HG : Hid _ := hg
      have hwz := hg.size
      clear hsn hx hs hown hg hva hr
      by_cases hneg : x < 0
      · go_wp2
        go_roundw
        case rel => exact ⟨k + 1, by omega, by go_num, by rw [HSN.out, if_pos hneg]; exact HO.out, HG.out⟩
        case measure => simp [intOf]; omega
      · have hform : ∃ og cg, u3 = .slice og s.length cg ∧ s.length ≤ cg ∧ ∀ k, k < s.length → ∃ g, og = some ⟨g, 0, none⟩ ∧ g < wr.heap.size ∧ wr.cell? ⟨g, k, none⟩ = some (.int .i64 (ia s k)) := by
          rcases own_form HO.out with ⟨rfl, e⟩ | ⟨g, cap, e, h1, h2, h3, h4⟩
          · exact ⟨_, _, e, by simp, fun k hk => by simp at hk⟩
          · exact ⟨_, _, e, h1, fun k hk => ⟨g, rfl, h3, h4 k hk⟩⟩
        obtain ⟨og, cg, rfl, hcg, hcell⟩ := hform
        have HC : Hid _ := hcell
        clear hcell
        obtain ⟨wo, rfl⟩ : ∃ wo : World, wo = wr := ⟨_, rfl⟩
        go_wp2
        go_loopw [5, 6] (fun nx i wi => ∃ j : Nat, j ≤ s.length ∧ i = .int .i64 j ∧ wi.ownsRow wo.heap.size 3 1 nx j (ints (s.take j)) ∧ Gn wo wi ∧ ∀ i, i < j → ia s i ≤ x) (fun _ i _ => s.length - (intOf i).toNat)
        case atStart => exact ⟨0, by omega, rfl, World.ownsRow_nil _ _ _ _, Gn.refl _, fun i hi => absurd hi (by omega)⟩
        case round =>
          obtain ⟨j, hj, rfl, hown2, hg2, hle⟩ := hrel
          have cx := gn_cell hg2 cr
          have hbi : b < wr.heap.size := by have := hg2.size; omega
          have HO2 : Hid _ := hown2
          have HG2 : Hid _ := hg2
          have HLE : Hid _ := hle
          have hwi := hg2.size
          clear hown2 hg2 hle
          by_cases hjl : j < s.length
          · have dj : decide (j < s.length) = true := by rw [decide_eq_true_eq]; exact hjl
            have hji : (j : Int) < (s.length : Int) := by omega
            obtain ⟨g, rfl, hgl2, cj⟩ := HC.out j hjl
            replace cj := gn_cell HG2.out cj
            have hgi : g < wr.heap.size := by omega
            by_cases hxs : ia s j ≤ x
            · have hd : decide (ia s j ≤ x) = true := by rw [decide_eq_true_eq]; exact hxs
              go_wp2
              refine wp_region_gr (by kernel_rfl) (by kernel_rfl) ?_
              repeat (go_big_quiet_step (fail))
              refine wpQuiet_nil ?_
              rintro _ ⟨q1, rfl⟩
              go_wp2_with (at_builtin; refine wpList_append_gen rfl _ _ rfl wo.heap.size _ j (ints (s.take j)) rfl (own_gn HO2.out (by with_reducible (repeat (first | exact Gn.refl _ | refine Gn.gr ?_ _ | refine Gn.alloc ?_ _ | refine Gn.drew ?_)))) _ 1 1 [ia s j] rfl rfl (fun _ => ⟨_, 0, rfl, fun k hk => by (have e : k = 0 := by omega); (subst e); exact cell1 _ _ _ (by simp)⟩) (by omega) (by simp; omega) ?_; intro v2 w2 h2 hg2; have H2 : Hid _ := h2; have HG3 : Hid _ := own_far (own_gn HO2.out (by with_reducible (repeat (first | exact Gn.refl _ | refine Gn.gr ?_ _ | refine Gn.alloc ?_ _ | refine Gn.drew ?_)))) (Gn.trans HG2.out (by with_reducible (repeat (first | exact Gn.refl _ | refine Gn.gr ?_ _ | refine Gn.alloc ?_ _ | refine Gn.drew ?_)))) (Nat.le_refl _) hg2; clear h2 hg2)
              go_roundw
              case rel => exact ⟨j + 1, by omega, by go_num, by rw [take_ia hjl, ints_append]; exact H2.out, HG3.out, fun i hi => by
                rcases Nat.lt_succ_iff_lt_or_eq.1 hi with h1 | rfl
                · exact HLE.out i h1
                · exact hxs⟩
              case measure => simp [intOf]; omega
            · have hd : decide (ia s j ≤ x) = false := by rw [decide_eq_false_iff_not]; exact hxs
              have HXS : Hid (j = s.length ∨ x < ia s j) := .inr (by omega)
              go_wp2
              refine wp_region_gr (by kernel_rfl) (by kernel_rfl) ?_
              repeat (go_big_quiet_step (fail))
              refine wpQuiet_nil ?_
              rintro _ ⟨q1, rfl⟩
              have t1 : Hid (1 = 1) := (rfl : 1 = 1)
              go_wp2_with (first | (at_builtin; have _t := t1; refine wpList_append_gen rfl _ _ rfl wo.heap.size _ j (ints (s.take j)) rfl (own_gn HO2.out (by with_reducible (repeat (first | exact Gn.refl _ | refine Gn.gr ?_ _ | refine Gn.alloc ?_ _ | refine Gn.drew ?_)))) _ 1 1 [x] rfl rfl (fun _ => ⟨_, 0, rfl, fun k hk => by (have e : k = 0 := by omega); (subst e); exact cell1 _ _ _ (by simp)⟩) (by omega) (by simp; omega) ?_; intro v2 w2 h2 hg2; have H2 : Hid _ := h2; have HG3 : Hid _ := own_far (own_gn HO2.out (by with_reducible (repeat (first | exact Gn.refl _ | refine Gn.gr ?_ _ | refine Gn.alloc ?_ _ | refine Gn.drew ?_)))) (Gn.trans HG2.out (by with_reducible (repeat (first | exact Gn.refl _ | refine Gn.gr ?_ _ | refine Gn.alloc ?_ _ | refine Gn.drew ?_)))) (Nat.le_refl _) hg2; clear h2 hg2 t1 _t; have t2 : Hid (2 = 2) := (rfl : 2 = 2)) | (at_builtin; have _t := t2; refine wpList_append_gen rfl _ _ rfl wo.heap.size _ (j + 1) (ints (s.take j) ++ ints [x]) rfl H2.out _ (s.length - j) _ (s.drop j) rfl (by rw [List.length_drop]) (fun _ => ⟨g, j, rfl, fun i hi => by (obtain ⟨g', e, _, hc⟩ := HC.out (j + i) (by omega)); (cases e); (rw [ia_drop]); (exact gn_cell HG3.out hc)⟩) (by omega) (by have := HG3.out; have := Gn.size this; omega) ?_; intro v3 w3 h3 hg3; have H3 : Hid _ := h3; have HG4 : Hid _ := own_far H2.out HG3.out (Nat.le_refl _) hg3; clear h3 hg3 t2 _t))
              go_roundw
              case rel =>
                refine ⟨k + 1, by omega, by go_num, ?_, Gn.trans HG.out HG4.out⟩
                rw [HSN.out, if_neg (by omega), ← ins_at x s j hj HLE.out HXS.out]
                have e1 : (s.take j ++ x :: s.drop j).length = j + 1 + (s.length - j) := by simp; omega
                have e2 : ints (s.take j ++ x :: s.drop j) = (ints (s.take j) ++ ints [x]) ++ ints (s.drop j) := by simp [ints]
                rw [e1, e2]
                exact own_base H3.out hwz
              case measure => simp [intOf]; omega
          · have dj : decide (j < s.length) = false := by rw [decide_eq_false_iff_not]; exact hjl
            have HXS : Hid (j = s.length ∨ x < ia s j) := .inl (by omega)
            go_wp2
            refine wp_region_gr (by kernel_rfl) (by kernel_rfl) ?_
            repeat (go_big_quiet_step (fail))
            refine wpQuiet_nil ?_
            rintro _ ⟨q1, rfl⟩
            have t1 : Hid (1 = 1) := (rfl : 1 = 1)
            go_wp2_with (first | (at_builtin; have _t := t1; refine wpList_append_gen rfl _ _ rfl wo.heap.size _ j (ints (s.take j)) rfl (own_gn HO2.out (by with_reducible (repeat (first | exact Gn.refl _ | refine Gn.gr ?_ _ | refine Gn.alloc ?_ _ | refine Gn.drew ?_)))) _ 1 1 [x] rfl rfl (fun _ => ⟨_, 0, rfl, fun k hk => by (have e : k = 0 := by omega); (subst e); exact cell1 _ _ _ (by simp)⟩) (by omega) (by simp; omega) ?_; intro v2 w2 h2 hg2; have H2 : Hid _ := h2; have HG3 : Hid _ := own_far (own_gn HO2.out (by with_reducible (repeat (first | exact Gn.refl _ | refine Gn.gr ?_ _ | refine Gn.alloc ?_ _ | refine Gn.drew ?_)))) (Gn.trans HG2.out (by with_reducible (repeat (first | exact Gn.refl _ | refine Gn.gr ?_ _ | refine Gn.alloc ?_ _ | refine Gn.drew ?_)))) (Nat.le_refl _) hg2; clear h2 hg2 t1 _t; have t2 : Hid (2 = 2) := (rfl : 2 = 2)) | (at_builtin; have _t := t2; refine wpList_append_gen rfl _ _ rfl wo.heap.size _ (j + 1) (ints (s.take j) ++ ints [x]) rfl H2.out _ (s.length - j) _ (s.drop j) rfl (by rw [List.length_drop]) (fun hpos => absurd hpos (by omega)) (by omega) (by have := HG3.out; have := Gn.size this; omega) ?_; intro v3 w3 h3 hg3; have H3 : Hid _ := h3; have HG4 : Hid _ := own_far H2.out HG3.out (Nat.le_refl _) hg3; clear h3 hg3 t2 _t))
            go_roundw
            case rel =>
              refine ⟨k + 1, by omega, by go_num, ?_, Gn.trans HG.out HG4.out⟩
              rw [HSN.out, if_neg (by omega), ← ins_at x s j hj HLE.out HXS.out]
              have e1 : (s.take j ++ x :: s.drop j).length = j + 1 + (s.length - j) := by simp; omega
              have e2 : ints (s.take j ++ x :: s.drop j) = (ints (s.take j) ++ ints [x]) ++ ints (s.drop j) := by simp [ints]
              rw [e1, e2]
              exact own_base H3.out hwz
            case measure => simp [intOf]; omega
    · obtain rfl : k = l.length := by omega
      rw [List.take_length] at hown
      have HO : Hid _ := hown
      have HG : Hid _ := hg
      clear hown hg
      go_wp2
      go_ret
      exact ⟨_, rfl, HO.out, HG.out⟩
end Go.Proofs.Ytggfjpfjpinhoaa
