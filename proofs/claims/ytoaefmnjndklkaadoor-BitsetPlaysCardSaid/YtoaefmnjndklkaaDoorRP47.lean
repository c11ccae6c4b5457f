/- The reference's sets: Put. -/
import Derived.Test.YtoaefmnjndklkaaDoorRF47
namespace Go.Proofs.YtoaefmnjndklkaaDoor
open Go.RowKit

theorem IR.cap_le {w : World} {base : Nat} {a : Addr} {n c : Nat} {l : List Int} (h : IR w base (.slice (some a) n c) l) : l.length ≤ c := by
  rcases h.1.2 with ⟨e, _⟩ | ⟨g, cap, _, e, _, _, hc, _⟩
  · cases e
  · cases e; exact hc
theorem rput_no (w : World) (xb : Nat) (P : Nat → Prop) (N : Nat) (l : List Int) (n : Int) (h : RS w xb P N l) (hl : l.length ≤ 1000000) (hn : n < 0 ∨ N ≤ n ∨ n ∈ l) :
    Calls Tryd.prog 17 #[.pointer (some ⟨xb, 0, none⟩), .int .i64 n] w fun e w' => e = .returned (.bool false) ∧ w = w' := by
  obtain ⟨o, c, c0, c1, hR⟩ := h.cells
  have hxb := h.lt
  have HR : Hid (IR w 0 (.slice o l.length c) l) := hR
  clear h hR
  by_cases h1 : n < 0
  · clear hn
    go_enter Tryd.func17, Tryd.ntmps17
    go_wp2
    go_ret
    exact ⟨rfl, rfl⟩
  · have h2 : 0 ≤ n := by omega
    by_cases h3 : (N : Int) ≤ n
    · clear hn h1
      go_enter Tryd.func17, Tryd.ntmps17
      go_wp2
      go_ret
      exact ⟨rfl, rfl⟩
    · have h4 : n < (N : Int) := by omega
      have HH : Hid (Calls Tryd.prog 34 #[.slice o l.length c, .int .i64 n] w fun e w' => e = .returned (.bool true) ∧ w = w') := by
        have := rhas_any w 0 _ l n HR.out hl
        rw [decide_eq_true ((hn.resolve_left h1).resolve_left h3)] at this
        exact this
      clear hn h1 h3
      go_enter Tryd.func17, Tryd.ntmps17
      go_wp2_with (go_at_call 34; refine Calls.mono HH.out ?_; rintro _ _ ⟨rfl, rfl⟩)
      go_ret
      exact ⟨rfl, rfl⟩
/-- n among rising numbers. -/
def ins (l : List Int) (n : Int) : List Int := l.takeWhile (fun x => decide (x < n)) ++ n :: l.dropWhile (fun x => decide (x < n))
theorem take_while {l : List Int} {n : Int} : ∀ {k : Nat}, (∀ x ∈ l.take k, x < n) → k ≤ l.length → (k = l.length ∨ n ≤ il l k) → l.takeWhile (fun x => decide (x < n)) = l.take k ∧ l.dropWhile (fun x => decide (x < n)) = l.drop k := by
  induction l with
  | nil => intro k _ _ _; simp
  | cons a l ih =>
    intro k h1 h2 h3
    cases k with
    | zero =>
      have h4 : n ≤ a := by
        rcases h3 with h3 | h3
        · simp at h3
        · simpa [il] using h3
      have h5 : ¬ a < n := by omega
      simp [List.takeWhile_cons, List.dropWhile_cons, h5]
    | succ k =>
      have h4 : a < n := h1 a (by simp)
      have h5 := ih (k := k) (fun x hx => h1 x (by simp [hx])) (by simpa using h2) (by
        rcases h3 with h3 | h3
        · left; simpa using h3
        · right; simpa [il] using h3)
      simp [List.takeWhile_cons, List.dropWhile_cons, h4, h5.1, h5.2]
theorem run_app_none36 (w : World) (g n c d : Nat) (hc : n ≤ c) (ty : TypeId) : (Builtin.append_ #[36, 36] ty #[.slice (some ⟨g, 0, none⟩) n c, .slice none 0 d]).run Tryd.prog w = .ok (.slice (some ⟨g, 0, none⟩) n c) w := by
  obtain ⟨i0, hi0, _, _, _⟩ := info_parts info3
  simp [Builtin.append_, run_underlying Tryd.underlying36, sizeOf, typeInfo, hi0, Builtin.lenOf, Builtin.firstCells, hc, storeCells]
theorem one_nus (r : List Int) : ∀ u ∈ nus r, u.oneCell' = true := by
  intro u hu
  obtain ⟨x, _, rfl⟩ := List.mem_map.1 hu
  rfl
/-- append of all numbers of a slice to a row that is not empty. -/
theorem wpList_append_nus {w : World} {ops : Array Oper} {rest : List Oper} {o : Oper} {a : Act} {Q : Exit → Act → World → Prop} (hgd : o.guard = none) (s x : Operand)
    (ho : o.op = .call { callee := .builtin .append, args := #[s, x], argTypes := #[36, 36] }) (base : Nat) (v : Value) (l : List Int) (A : Option Addr) (m d : Nat) (r : List Int) (hs : a.eval s = v) (hown : IR w base v l) (hx : a.eval x = .slice A m d) (hr : r.length = m)
    (hA : 0 < m → ∃ ad : Addr, A = some ad ∧ ∀ j, j < m → w.cell? (ad.add j) = some (.int .i64 (il r j))) (hn : A = none → m = 0) (hl0 : 0 < l.length) (hb : base ≤ w.heap.size) (hbd : l.length + m ≤ 1000000)
    (h : ∀ v' w', IR w' base v' (l ++ r) → w.grownBy w' v.ownBlock → wpList Tryd.prog ops Q rest (a.put o.dst v') w') : wpList Tryd.prog ops Q (o :: rest) a w :=
  wpList_plain hgd fun _ hK => by
    obtain ⟨i0, hi0, hz0, hz1, hz2⟩ := info_parts info3
    have main : ∃ v' w', (Builtin.append_ #[36, 36] o.type #[v, .slice A m d]).run Tryd.prog w = .ok v' w' ∧ IR w' base v' (l ++ r) ∧ w.grownBy w' v.ownBlock := by
      cases A with
      | none =>
        obtain rfl := hn rfl
        have hr0 : r = [] := List.length_eq_zero_iff.1 hr
        subst hr0
        rcases hown.1.2 with ⟨_, h2⟩ | ⟨g, cap, _, rfl, _, _, hc, _⟩
        · omega
        · exact ⟨_, _, run_app_none36 w g _ cap d hc _, by rw [List.append_nil]; exact hown, gb_refl _ _⟩
      | some ad =>
        obtain ⟨v', w', hrun, h2, h3, _, h5⟩ := run_append_own_at (P := Tryd.prog) w 0 36 o.type 3 i0 (.int .i64 0) 1 8 Tryd.underlying36 hi0 hz0 hz1 hz2 rfl (by omega) v l.length (nus l) hown.1 ad m d (nus r) (by simp [nus, hr])
          (fun j u hu => by
            have hj : j < m := by
              rcases Nat.lt_or_ge j m with h | h
              · exact h
              · rw [List.getElem?_eq_none (by simp [nus]; omega)] at hu; cases hu
            obtain ⟨ad', e, hc⟩ := hA (by omega)
            cases e
            rw [hc j hj, ← hu]
            simp [nus, il, hr, hj]) (one_nus r) (by unfold maxLen; omega) (by omega) (Nat.zero_le _)
        refine ⟨v', w', hrun, ⟨?_, fun k e => ?_⟩, h3⟩
        · have e1 : (l ++ r).length = l.length + m := by simp [hr]
          have e2 : nus (l ++ r) = nus l ++ nus r := by simp [nus]
          rw [e1, e2]; exact h2
        · rcases h5 with h5 | h5
          · rw [h5] at e; exact hown.2 k e
          · rw [h5] at e; cases e; exact hb
    obtain ⟨v', w', hrun, h2, h3⟩ := main
    have hh := hK _ _ (h v' w' h2 h3)
    unfold Oper.wp execOp
    simp only [ho, resolve, invoke, builtin, Sem.run_bind, Sem.run_pure, Result.andThen_ok, List.map_toArray, List.map_cons, List.map_nil, hs, hx, hrun]
    exact hh
theorem il_drop {l : List Int} {k j : Nat} : il (l.drop k) j = il l (k + j) := by
  unfold il
  rw [List.getElem?_drop]
set_option maxHeartbeats 2000000 in
theorem rput_yes (w : World) (xb : Nat) (P : Nat → Prop) (N : Nat) (l : List Int) (n : Int) (h : RS w xb P N l) (hl : l.length ≤ 90000) (h1 : 0 ≤ n) (h2 : n < N) (h3 : n ∉ l) :
    Calls Tryd.prog 17 #[.pointer (some ⟨xb, 0, none⟩), .int .i64 n] w fun e w' => e = .returned (.bool true) ∧ RS w' xb (fun k => w.heap.size ≤ k) N (ins l n) ∧ Kp (fun k => k = xb) w w' := by
  obtain ⟨o, c, c0, c1, hR⟩ := h.cells
  have hxb := h.lt
  have H : Hid (RS w xb P N l) := h
  have HR : Hid (IR w 0 (.slice o l.length c) l) := hR
  have HH : Hid (Calls Tryd.prog 34 #[.slice o l.length c, .int .i64 n] w fun e w' => e = .returned (.bool false) ∧ w = w') := by
    have := rhas_any w 0 _ l n hR (by omega)
    rw [decide_eq_false h3] at this
    exact this
  clear h hR h3
  go_enter Tryd.func17, Tryd.ntmps17
  go_wp2_with (go_at_call 34; refine Calls.mono HH.out ?_; rintro _ _ ⟨rfl, rfl⟩)
  go_loopw [5, 6] (fun r i wr => ∃ k : Nat, k ≤ l.length ∧ i = .int .i64 k ∧ IR wr w.heap.size r (l.take k) ∧ (∀ x ∈ l.take k, x < n) ∧ Gn w wr) (fun _ i _ => l.length - (intOf i).toNat)
  case atStart => exact ⟨0, by omega, rfl, IR.nil _ _, by simp, Gn.refl _⟩
  case round =>
    obtain ⟨k, hk, rfl, hI, hx, hg⟩ := hrel
    have HI : Hid (IR wr w.heap.size u5 (l.take k)) := hI
    have HG : Hid (Gn w wr) := hg
    have HX : Hid (∀ x ∈ l.take k, x < n) := hx
    have hws := hg.size
    have hwl : (l.take k).length ≤ 100000 := by rw [List.length_take]; omega
    have c0r := gn_cell hg c0
    have c1r := gn_cell hg c1
    have hxr : xb < wr.heap.size := by omega
    clear hI hg hx
    by_cases hgo : k < l.length ∧ il l k < n
    · obtain ⟨hkl, hlt⟩ := hgo
      obtain ⟨g, cap, he, hgl, ck⟩ := (HR.out.gn HG.out).facts hkl
      cases he
      have hki : (k : Int) < (l.length : Int) := by omega
      have HT : Hid (l.take (k + 1) = l.take k ++ [il l k]) := take_il hkl
      generalize il l k = x at *
      have HX2 : Hid (∀ y ∈ l.take (k + 1), y < n) := by
        show ∀ y ∈ l.take (k + 1), y < n
        intro y hy
        rw [HT.out, List.mem_append] at hy
        rcases hy with hy | hy
        · exact HX.out y hy
        · simp at hy; omega
      go_wp2_with (at_builtin; refine wpList_append_nu rfl _ _ rfl w.heap.size _ (l.take k) x rfl (HI.out.gn ((Gn.refl _).alloc _)) rfl rfl hws hwl ?_; intro v2 w2 h1 h2; have H1 : Hid (IR w2 w.heap.size v2 (l.take k ++ [x])) := h1; have HG2 : Hid (Gn w w2) := h2 w (Nat.le_refl _) HG.out; clear h1 h2)
      go_roundw
      case rel => exact ⟨k + 1, by omega, by go_num, by rw [HT.out]; exact H1.out, HX2.out, HG2.out⟩
      case measure => simp [intOf]; omega
    · have hend : k = l.length ∨ n ≤ il l k := by
        by_cases h5 : k < l.length
        · right; have : ¬ il l k < n := fun h6 => hgo ⟨h5, h6⟩; omega
        · left; omega
      obtain ⟨e1, e2⟩ := take_while HX.out hk hend
      have HE : Hid (ins l n = (l.take k ++ [n]) ++ l.drop k) := by
        show _ = _
        unfold ins
        rw [e1, e2]
        simp
      clear e1 e2 hgo
      by_cases hkl : k < l.length
      · obtain ⟨g, cap, he, hgl, ck⟩ := (HR.out.gn HG.out).facts hkl
        cases he
        have hki : (k : Int) < (l.length : Int) := by omega
        have hle : n ≤ il l k := hend.resolve_left (by omega)
        generalize il l k = x at *
        have hnl : ¬ x < n := by omega
        clear hend
        go_upto_region 9 with (at_builtin; refine wpList_append_nu rfl _ _ rfl w.heap.size _ (l.take k) n rfl (HI.out.gn ((Gn.refl _).alloc _)) rfl rfl hws hwl ?_; intro v2 w2 h1 h2; have H1 : Hid (IR w2 w.heap.size v2 (l.take k ++ [n])) := h1; have HG2 : Hid (Gn w w2) := h2 w (Nat.le_refl _) HG.out; clear h1 h2)
        have hlc : l.length ≤ c := HR.out.cap_le
        have hkc : ¬ c = k := by omega
        have hkc2 : (k : Int) ≤ (c : Int) := by omega
        have c1b := gn_cell HG2.out c1
        have hx2 : xb < w2.heap.size := by have := HG2.out.size; omega
        have hws2 := HG2.out.size
        have hl0 : 0 < (l.take k ++ [n]).length := by simp
        have hbd2 : (l.take k ++ [n]).length + (l.length - k) ≤ 1000000 := by simp only [List.length_append, List.length_cons, List.length_nil]; omega
        have fz2 : w2.frozen? ⟨xb, 1, none⟩ = false := (HG2.out.frozen _ hxb).trans (H.out.frz 1)
        have HM : Hid (RS w2 xb P N l) := H.out.gn HG2.out
        go_wp2_with (at_builtin; refine wpList_append_nus rfl _ _ rfl w.heap.size _ (l.take k ++ [n]) (some ⟨g, k, none⟩) (l.length - k) (c - k) (l.drop k) rfl H1.out rfl (by simp) (fun _ => ⟨_, rfl, fun j hj => by (rw [il_drop]; obtain ⟨g9, cap9, he9, _, c9⟩ := (HR.out.gn HG2.out).facts (show k + j < l.length by omega); cases he9; have hadd : Addr.add ⟨g, k, none⟩ j = ⟨g, k + j, none⟩ := (by unfold Addr.add; split <;> simp_all); rw [hadd]; exact c9)⟩) (fun e => by cases e) hl0 hws2 hbd2 ?_; intro v4 w4 h1 h2; obtain ⟨L4, hL4⟩ : ∃ L, (l.take k ++ [n]) ++ l.drop k = L := ⟨_, rfl⟩; rw [hL4] at h1; have HE4 : Hid (ins l n = L4) := HE.out.trans hL4; clear hL4; obtain ⟨o4, c4, rfl⟩ := h1.shape; have H4 : Hid (IR w4 w.heap.size (.slice o4 L4.length c4) L4) := h1; have HG4 : Hid (Gn w w4) := HG2.out.grown h2 (fun q e => H1.out.2 q e); have c1d := gn_cell HG4.out c1; have fz4 : w4.frozen? ⟨xb, 1, none⟩ = false := (HG4.out.frozen _ hxb).trans (H.out.frz 1); have hx4 : xb < w4.heap.size := (by have := HG4.out.size; omega); clear h1 h2)
        go_ret
        rw [HE4.out]
        exact ⟨rfl, (H.out.gn HG4.out).set H4.out hxb, (Kp.of_gn _ HG4.out).set xb _ _ rfl⟩
      · obtain rfl : k = l.length := by omega
        clear hend
        have HTL : Hid (l.take l.length = l) := List.take_length
        have HE2 : Hid (ins l n = (l ++ [n]) ++ []) := by
          have := HE.out
          rw [List.drop_length, HTL.out] at this
          exact this
        rw [HTL.out] at HI hwl
        clear HE HX hkl hk
        have hkk : ¬ (l.length : Int) < (l.length : Int) := by omega
        rcases HR.out.1.2 with ⟨e, h0⟩ | ⟨g, cap, _, e, _, hgb, hlc, _⟩
        · injection e with e1 e2 e3
          subst e1
          subst e3
          have hl00 : l = [] := List.length_eq_zero_iff.1 h0
          clear e2 h0
          subst hl00
          go_upto_region 9 with (at_builtin; refine wpList_append_nu rfl _ _ rfl w.heap.size _ [] n rfl (HI.out.gn ((Gn.refl _).alloc _)) rfl rfl hws hwl ?_; intro v2 w2 h1 h2; have H1 : Hid (IR w2 w.heap.size v2 (([] : List Int) ++ [n])) := h1; have HG2 : Hid (Gn w w2) := h2 w (Nat.le_refl _) HG.out; clear h1 h2)
          have c1b := gn_cell HG2.out c1
          have hx2 : xb < w2.heap.size := by have := HG2.out.size; omega
          have hws2 := HG2.out.size
          have hl0 : 0 < (([] : List Int) ++ [n]).length := by simp
          have hbd2 : (([] : List Int) ++ [n]).length + 0 ≤ 1000000 := by simp only [List.length_append, List.length_cons, List.length_nil]; omega
          have fz2 : w2.frozen? ⟨xb, 1, none⟩ = false := (HG2.out.frozen _ hxb).trans (H.out.frz 1)
          go_wp2_with (at_builtin; refine wpList_append_nus rfl _ _ rfl w.heap.size _ (([] : List Int) ++ [n]) none 0 0 [] rfl H1.out rfl rfl (fun e => absurd e (by omega)) (fun _ => rfl) hl0 hws2 hbd2 ?_; intro v4 w4 h1 h2; obtain ⟨L4, hL4⟩ : ∃ L, (([] : List Int) ++ [n]) ++ [] = L := ⟨_, rfl⟩; rw [hL4] at h1; have HE4 : Hid (ins [] n = L4) := HE2.out.trans hL4; clear hL4; obtain ⟨o4, c4, rfl⟩ := h1.shape; have H4 : Hid (IR w4 w.heap.size (.slice o4 L4.length c4) L4) := h1; have HG4 : Hid (Gn w w4) := HG2.out.grown h2 (fun q e => H1.out.2 q e); have c1d := gn_cell HG4.out c1; have fz4 : w4.frozen? ⟨xb, 1, none⟩ = false := (HG4.out.frozen _ hxb).trans (H.out.frz 1); have hx4 : xb < w4.heap.size := (by have := HG4.out.size; omega); clear h1 h2)
          go_ret
          rw [HE4.out]
          exact ⟨rfl, (H.out.gn HG4.out).set H4.out hxb, (Kp.of_gn _ HG4.out).set xb _ _ rfl⟩
        · cases e
          have hgl := lt_of_block hgb
          have hgr : g < wr.heap.size := by omega
          clear hgb
          have hlc2 : (l.length : Int) ≤ (c : Int) := by omega
          by_cases hcc : c = l.length
          · subst hcc
            go_upto_region 9 with (at_builtin; refine wpList_append_nu rfl _ _ rfl w.heap.size _ l n rfl (HI.out.gn ((Gn.refl _).alloc _)) rfl rfl hws hwl ?_; intro v2 w2 h1 h2; have H1 : Hid (IR w2 w.heap.size v2 (l ++ [n])) := h1; have HG2 : Hid (Gn w w2) := h2 w (Nat.le_refl _) HG.out; clear h1 h2)
            have c1b := gn_cell HG2.out c1
            have hx2 : xb < w2.heap.size := by have := HG2.out.size; omega
            have hws2 := HG2.out.size
            have hl0 : 0 < (l ++ [n]).length := by simp
            have hbd2 : (l ++ [n]).length + 0 ≤ 1000000 := by simp only [List.length_append, List.length_cons, List.length_nil]; omega
            have fz2 : w2.frozen? ⟨xb, 1, none⟩ = false := (HG2.out.frozen _ hxb).trans (H.out.frz 1)
            go_wp2_with (at_builtin; refine wpList_append_nus rfl _ _ rfl w.heap.size _ (l ++ [n]) (some ⟨g, 0, none⟩) 0 0 [] rfl H1.out rfl rfl (fun e => absurd e (by omega)) (fun _ => rfl) hl0 hws2 hbd2 ?_; intro v4 w4 h1 h2; obtain ⟨L4, hL4⟩ : ∃ L, (l ++ [n]) ++ [] = L := ⟨_, rfl⟩; rw [hL4] at h1; have HE4 : Hid (ins l n = L4) := HE2.out.trans hL4; clear hL4; obtain ⟨o4, c4, rfl⟩ := h1.shape; have H4 : Hid (IR w4 w.heap.size (.slice o4 L4.length c4) L4) := h1; have HG4 : Hid (Gn w w4) := HG2.out.grown h2 (fun q e => H1.out.2 q e); have c1d := gn_cell HG4.out c1; have fz4 : w4.frozen? ⟨xb, 1, none⟩ = false := (HG4.out.frozen _ hxb).trans (H.out.frz 1); have hx4 : xb < w4.heap.size := (by have := HG4.out.size; omega); clear h1 h2)
            go_ret
            rw [HE4.out]
            exact ⟨rfl, (H.out.gn HG4.out).set H4.out hxb, (Kp.of_gn _ HG4.out).set xb _ _ rfl⟩
          · have hcc2 : ¬ l.length = c := fun e => hcc e.symm
            go_upto_region 9 with (at_builtin; refine wpList_append_nu rfl _ _ rfl w.heap.size _ l n rfl (HI.out.gn ((Gn.refl _).alloc _)) rfl rfl hws hwl ?_; intro v2 w2 h1 h2; have H1 : Hid (IR w2 w.heap.size v2 (l ++ [n])) := h1; have HG2 : Hid (Gn w w2) := h2 w (Nat.le_refl _) HG.out; clear h1 h2)
            have c1b := gn_cell HG2.out c1
            have hx2 : xb < w2.heap.size := by have := HG2.out.size; omega
            have hws2 := HG2.out.size
            have hl0 : 0 < (l ++ [n]).length := by simp
            have hbd2 : (l ++ [n]).length + 0 ≤ 1000000 := by simp only [List.length_append, List.length_cons, List.length_nil]; omega
            have fz2 : w2.frozen? ⟨xb, 1, none⟩ = false := (HG2.out.frozen _ hxb).trans (H.out.frz 1)
            go_wp2_with (at_builtin; refine wpList_append_nus rfl _ _ rfl w.heap.size _ (l ++ [n]) (some ⟨g, l.length, none⟩) 0 (c - l.length) [] rfl H1.out rfl rfl (fun e => absurd e (by omega)) (fun _ => rfl) hl0 hws2 hbd2 ?_; intro v4 w4 h1 h2; obtain ⟨L4, hL4⟩ : ∃ L, (l ++ [n]) ++ [] = L := ⟨_, rfl⟩; rw [hL4] at h1; have HE4 : Hid (ins l n = L4) := HE2.out.trans hL4; clear hL4; obtain ⟨o4, c4, rfl⟩ := h1.shape; have H4 : Hid (IR w4 w.heap.size (.slice o4 L4.length c4) L4) := h1; have HG4 : Hid (Gn w w4) := HG2.out.grown h2 (fun q e => H1.out.2 q e); have c1d := gn_cell HG4.out c1; have fz4 : w4.frozen? ⟨xb, 1, none⟩ = false := (HG4.out.frozen _ hxb).trans (H.out.frz 1); have hx4 : xb < w4.heap.size := (by have := HG4.out.size; omega); clear h1 h2)
            go_ret
            rw [HE4.out]
            exact ⟨rfl, (H.out.gn HG4.out).set H4.out hxb, (Kp.of_gn _ HG4.out).set xb _ _ rfl⟩
end Go.Proofs.YtoaefmnjndklkaaDoor
