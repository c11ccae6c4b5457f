/- The reference's memory: Put, Get. -/
import Derived.Test.YtdfhcjhhjjbpoaaRC52
import Derived.IntWalk
namespace Go.Proofs.Ytdfhcjhhjjbpoaa
open Go.RowKit

theorem run_app_none (w : World) (g n c : Nat) (hc : n ≤ c) (ty : TypeId) : (Builtin.append_ #[41, 41] ty #[.slice (some ⟨g, 0, none⟩) n c, .slice none 0 0]).run Try.prog w = .ok (.slice (some ⟨g, 0, none⟩) n c) w := by
  obtain ⟨i0, hi0, _, _, _⟩ := info_parts info58
  simp [Builtin.append_, run_underlying Try.underlying41, sizeOf, typeInfo, hi0, Builtin.lenOf, Builtin.firstCells, hc, storeCells]
/-- append of all rows of l to a row of one. -/
theorem wpList_append_rws {w : World} {ops : Array Oper} {rest : List Oper} {o : Oper} {a : Act} {Q : Exit → Act → World → Prop} (hgd : o.guard = none) (s x : Operand)
    (ho : o.op = .call { callee := .builtin .append, args := #[s, x], argTypes := #[41, 41] }) (base g : Nat) (t : Rw) (l : List Rw) (u : Value) (hs : a.eval s = .slice (some ⟨g, 0, none⟩) 1 1) (hown : RR w base (.slice (some ⟨g, 0, none⟩) 1 1) [t])
    (hx : a.eval x = u) (hl : RR w 0 u l) (hb : base ≤ w.heap.size) (hbd : l.length ≤ 1000)
    (h : ∀ v' w', RR w' base v' (t :: l) → w.grownBy w' (some g) → wpList Try.prog ops Q rest (a.put o.dst v') w') : wpList Try.prog ops Q (o :: rest) a w :=
  wpList_plain hgd fun _ hK => by
    obtain ⟨i0, hi0, hz0, hz1, hz2⟩ := info_parts info58
    have e2 : rws (t :: l) = rws [t] ++ rws l := by simp [rws]
    have main : ∃ v' w', (Builtin.append_ #[41, 41] o.type #[.slice (some ⟨g, 0, none⟩) 1 1, u]).run Try.prog w = .ok v' w' ∧ RR w' base v' (t :: l) ∧ w.grownBy w' (some g) := by
      rcases hl.1.2 with ⟨rfl, h0⟩ | ⟨b, cap, cur, rfl, r⟩
      · have : l = [] := List.length_eq_zero_iff.1 h0
        subst this
        exact ⟨_, _, run_app_none w g 1 1 (Nat.le_refl _) _, hown, gb_refl _ _⟩
      · have hadd : ∀ j, Addr.add ⟨b, 0, none⟩ j = ⟨b, j, none⟩ := fun j => by unfold Addr.add; split <;> simp_all
        obtain ⟨v', w', hrun, h2, h3, _, h5⟩ := run_append_own_at (P := Try.prog) w 0 41 o.type 58 i0 (.agg Z10) 10 80 Try.underlying41 hi0 hz0 hz1 hz2 rfl (by omega) _ _ _ hown.1 ⟨b, 0, none⟩ l.length cap (rws l) (rws_len l)
          (fun j u hu => by
            rw [hadd]
            have hj : j < (rws l).length := by
              rcases Nat.lt_or_ge j (rws l).length with h | h
              · exact h
              · rw [List.getElem?_eq_none (by omega)] at hu; cases hu
            rw [hl.1.cellAt j (by rw [rws_len] at hj; exact hj)]; exact hu) (one_rws l) (by unfold maxLen; simp; omega) (by simp; omega) (Nat.zero_le _)
        refine ⟨v', w', hrun, ⟨?_, fun k e => ?_⟩, h3⟩
        · have e3 : (t :: l).length = [t].length + l.length := by simp; omega
          rw [e2, e3]; exact h2
        · rcases h5 with h5 | h5
          · rw [h5] at e; exact hown.2 k e
          · rw [h5] at e; cases e; exact hb
    obtain ⟨v', w', hrun, h2, h3⟩ := main
    have hh := hK _ _ (h v' w' h2 h3)
    unfold Oper.wp execOp
    simp only [ho, resolve, invoke, builtin, Sem.run_bind, Sem.run_pure, Result.andThen_ok, List.map_toArray, List.map_cons, List.map_nil, hs, hx, hrun]
    exact hh
theorem RR.one (w : World) (r : Rw) : RR (w.alloc (.cells (rcs r) 58)) w.heap.size (.slice (some ⟨w.heap.size, 0, none⟩) 1 1) [r] := by
  refine ⟨⟨rws_len _, .inr ⟨w.heap.size, 1, rcs r, rfl, Nat.zero_le _, heap_alloc_new _ _, by simp, by unfold maxLen; omega, rfl, ?_⟩⟩, fun k e => by cases e; exact Nat.le_refl _⟩
  simp [rws, rcs]
def lastR (l : List Rw) : Tup := match l.getLast? with | some r => r.1 | none => T0
def putR (room : Int) (l : List Rw) : Tup × Bool × List Rw := if (l.length : Int) ≤ room then (T0, false, l) else (lastR l, true, cutR (lastR l) l)
theorem lastR_eq (l : List Rw) (h : 0 < l.length) : lastR l = (rl l (l.length - 1)).1 := by
  unfold lastR rl
  rw [List.getLast?_eq_getElem?]
  rw [List.getElem?_eq_getElem (by omega)]
  simp
theorem cutR_le (t : Tup) (l : List Rw) : (cutR t l).length ≤ l.length := List.length_filter_le _ _
set_option maxRecDepth 100000 in
theorem rput_any (w : World) (xb : Nat) (P : Nat → Prop) (room : Int) (l : List Rw) (h : RM w xb P room l) (hl : l.length ≤ 900) (t : Tup) (x : Int) :
    Calls Try.prog 15 #[.pointer (some ⟨xb, 0, none⟩), t.val, .int .i64 x] w fun e w' => e = .returned (.tuple #[(putR room ((t, x) :: cutR t l)).1.val, .bool (putR room ((t, x) :: cutR t l)).2.1]) ∧ RM w' xb (fun k => w.heap.size ≤ k) room (putR room ((t, x) :: cutR t l)).2.2 ∧ Kp (fun k => k = xb) w w' := by
  have hB := Bx.new w t
  have HG : Hid (Gn w ((w.alloc (.cells t.cs 32)).alloc (.cells T0.cs 32))) := ((Gn.refl w).alloc _).alloc _
  have HB : Hid (Bx ((w.alloc (.cells t.cs 32)).alloc (.cells T0.cs 32)) w.heap.size t) := hB.kept (Kp.of_gn (fun _ => False) ((Gn.refl _).alloc _)) (fun e => e)
  have HR : Hid (Bx ((w.alloc (.cells t.cs 32)).alloc (.cells T0.cs 32)) (w.heap.size + 1) T0) := by
    have := Bx.new (w.alloc (.cells t.cs 32)) T0
    rw [size_alloc] at this
    exact this
  have HM : Hid (RM ((w.alloc (.cells t.cs 32)).alloc (.cells T0.cs 32)) xb P room l) := h.gn HG.out
  have HS : Hid (((w.alloc (.cells t.cs 32)).alloc (.cells T0.cs 32)).heap.size = w.heap.size + 2) := by show _ = _; rw [size_alloc, size_alloc]
  have hxb := h.lt
  have hcl : (cutR t l).length ≤ 900 := Nat.le_trans (cutR_le t l) hl
  have hl1 : l.length ≤ 1000 := by omega
  clear h hB
  obtain ⟨b0, b1, b2, b3, b4, b5, b6, b7, b8⟩ := HB.out.cells
  simp only [Tup.val, Tup.cs, T0] at b0 b1 b2 b3 b4 b5 b6 b7 b8 ⊢
  go_enter Try.func15, Try.ntmps15
  go_upto_region 2 with (go_at_call 13; refine Calls.mono (rcut_any _ xb P room l HM.out hl1 t) ?_; rintro _ w2 ⟨rfl, h2, h3⟩; have HM2 : Hid (RM w2 xb (fun k => w.heap.size + 2 ≤ k) room (cutR t l)) := h2.mono (fun k _ e => (HS.out ▸ e)); have HB2 : Hid (Bx w2 w.heap.size t) := HB.out.kept h3 (fun e => by omega); have HR2 : Hid (Bx w2 (w.heap.size + 1) T0) := HR.out.kept h3 (fun e => by omega); have HK2 : Hid (Kp (fun k => k = xb) w w2) := (Kp.of_gn _ HG.out).trans h3; have hs2 : w.heap.size + 2 ≤ w2.heap.size := HS.out ▸ h3.size; clear h2 h3)
  have HG3 : Hid (Gn w2 (w2.alloc (.cells (rcs (t, x)) 58))) := (Gn.refl w2).alloc _
  have HO3 : Hid (RR (w2.alloc (.cells (rcs (t, x)) 58)) w2.heap.size (.slice (some ⟨w2.heap.size, 0, none⟩) 1 1) [(t, x)]) := RR.one w2 (t, x)
  clear b0 b1 b2 b3 b4 b5 b6 b7 b8
  obtain ⟨b0, b1, b2, b3, b4, b5, b6, b7, b8⟩ := HB2.out.cells
  have HM3 : Hid (RM (w2.alloc (.cells (rcs (t, x)) 58)) xb (fun k => w.heap.size + 2 ≤ k) room (cutR t l)) := HM2.out.gn HG3.out
  have HS3 : Hid ((w2.alloc (.cells (rcs (t, x)) 58)).heap.size = w2.heap.size + 1) := size_alloc _ _
  obtain ⟨o3, c3, c0, c1, hR3⟩ := HM3.out.cells
  have HR3 : Hid (RR (w2.alloc (.cells (rcs (t, x)) 58)) 0 (.slice o3 (cutR t l).length c3) (cutR t l)) := hR3
  have HP3 : Hid (Bx (w2.alloc (.cells (rcs (t, x)) 58)) (w.heap.size + 1) T0) := HR2.out.kept (Kp.of_gn (fun _ => False) HG3.out) (fun e => e)
  clear hR3
  simp only [rcs] at HG3 HO3 HM3 HS3 HR3 HP3 c0 c1
  go_upto_region 3 with (fail)
  generalize hw3 : w2.alloc _ = w3 at *
  clear hw3
  have hs3 := HG3.out.size
  have hb3 : w2.heap.size ≤ w3.heap.size := hs3
  have hcl1 : (cutR t l).length ≤ 1000 := by omega
  have hxn : w2.heap.size ≠ xb := by have := HK2.out.size; omega
  have HF3 : Hid (∀ j, w3.frozen? ⟨xb, j, none⟩ = false) := fun j => HM3.out.frz j
  have hxb3 : xb < w3.heap.size := by omega
  go_upto_region 4 with (at_builtin; refine wpList_append_rws rfl _ _ rfl w2.heap.size w2.heap.size (t, x) (cutR t l) (.slice o3 (cutR t l).length c3) rfl HO3.out rfl HR3.out hb3 hcl1 ?_; intro v4 w4 h1 h2; obtain ⟨L, hL⟩ : ∃ L, (t, x) :: cutR t l = L := ⟨_, rfl⟩; rw [hL] at h1; have HL : Hid ((t, x) :: cutR t l = L) := hL; clear hL; obtain ⟨o4, c4, rfl⟩ := h1.shape; have HR4 : Hid (RR w4 w2.heap.size (.slice o4 L.length c4) L) := h1; have HK4 : Hid (Kp (fun k => k = w2.heap.size) w3 w4) := Kp.of_gb h2 (fun k e => by (cases e; rfl)); have fz4 : w4.frozen? ⟨xb, 1, none⟩ = false := (World.frozen?_of_block (HK4.out.block xb hxb3 (fun e => hxn e.symm))).trans (HF3.out 1); have d1 := HK4.out.cell c1 (fun e => hxn e.symm); clear h1 h2)
  have HM5 : Hid (RM (w4.setCell ⟨xb, 1, none⟩ (.slice o4 L.length c4)) xb (fun k => w2.heap.size ≤ k) room L) := by
    obtain ⟨v0, hv0, _⟩ := HM3.out
    have hb4 := (HK4.out.block xb hxb3 (fun e => hxn e.symm)).trans hv0
    exact ⟨_, heap_setCell_same w4 xb 1 _ 43 _ hb4, ⟨own_kp HR4.out.1 ((Kp.refl (fun k => k = xb) w4).set xb _ _ rfl) (fun k e e2 => by have := HR4.out.2 k e; omega), fun k e => Nat.zero_le _⟩, HR4.out.2⟩
  have HP4 : Hid (Bx w4 (w.heap.size + 1) T0) := HP3.out.kept HK4.out (fun e => by omega)
  have HP5 : Hid (Bx (w4.setCell ⟨xb, 1, none⟩ (.slice o4 L.length c4)) (w.heap.size + 1) T0) := HP4.out.kept ((Kp.refl (fun k => k = xb) w4).set xb _ _ rfl) (fun e => by omega)
  have HW5 : Hid (Kp (fun k => k = xb) w (w4.setCell ⟨xb, 1, none⟩ (.slice o4 L.length c4))) := by
    have k1 : Kp (fun k => k = xb ∨ w.heap.size ≤ k) w w4 := ((HK2.out.mono (fun k _ e => .inl e)).trans (Kp.of_gn _ HG3.out)).trans (HK4.out.mono (fun k _ e => .inr (by omega)))
    exact (k1.mono (fun k hk e => e.elim id (fun e => absurd hk (by omega)))).set xb _ _ rfl
  have hsz5 : (w4.setCell ⟨xb, 1, none⟩ (.slice o4 L.length c4)).heap.size = w4.heap.size := by unfold World.setCell; simp
  have hs4 := HK4.out.size
  have hL0 : 0 < L.length := by rw [← HL.out]; simp
  have hL9 : L.length ≤ 901 := by rw [← HL.out]; simp; omega
  generalize hw5 : w4.setCell ⟨xb, 1, none⟩ _ = w5 at *
  clear hw5 HM HB HR HG HS HM2 HB2 HR2 HG3 HO3 HM3 HS3 HR3 HP3 HF3 HR4 HK4 HP4 fz4 d1 c0 c1 b0 b1 b2 b3 b4 b5 b6 b7 b8
  obtain ⟨o5, c5, e0, e1, hR5⟩ := HM5.out.cells
  have HR5 : Hid (RR w5 0 (.slice o5 L.length c5) L) := hR5
  clear hR5
  have hxb5 : xb < w5.heap.size := by omega
  have hz5 : w4.heap.size ≤ w5.heap.size := by omega
  clear hsz5
  refine wp_region_gr (by kernel_rfl) (by kernel_rfl) ?_
  repeat (go_big_quiet_step (fail))
  refine wpQuiet_nil ?_
  rintro _ ⟨q7, rfl⟩
  by_cases hle : (L.length : Int) ≤ room
  · have hd : decide ((L.length : Int) ≤ room) = true := decide_eq_true hle
    have he : putR room L = (T0, false, L) := if_pos hle
    have HE : Hid (putR room L = (T0, false, L)) := he
    clear he
    go_wp2_with (first | (refine wpList_store_box rfl _ _ rfl T0 rfl rfl (HP5.out.kept (Kp.of_gn (fun _ => False) ((Gn.refl _).gr q7)) (fun e => e)) ?_; intro w8 h1 h2; have HR8 : Hid (Bx w8 (w.heap.size + 1) T0) := h1; have HK8 : Hid (Kp (fun k => k = w.heap.size + 1) w5 w8) := (Kp.of_gn _ ((Gn.refl _).gr q7)).trans (Kp.of_gb h2 (fun k e => by (cases e); rfl)); clear h1 h2))
    refine bodyPost_ret (v := .tuple #[T0.val, .bool false]) ?_ rfl ⟨?_, ?_, ?_⟩
    · have b := HR8.out.cells
      simp only [T0] at b
      obtain ⟨b0, b1, b2, b3, b4, b5, b6, b7, b8⟩ := b
      simp [results, Try.results15, go_sem, b0, b1, b2, b3, b4, b5, b6, b7, b8, Tup.val, Tup.cs, T0]
    · simp only [HL.out, HE.out]
      rfl
    · simp only [HL.out, HE.out]
      exact (HM5.out.kept HK8.out (fun e => by omega) (fun k _ e e2 => by omega)).mono (fun k _ e => by omega)
    · have k8 : Kp (fun k => k = xb ∨ w.heap.size ≤ k) w w8 := (HW5.out.mono (fun k _ e => .inl e)).trans (HK8.out.mono (fun k _ e => .inr (by omega)))
      exact k8.mono (fun k hk e => e.elim id (fun e => absurd e (by omega)))
  · have hd : decide ((L.length : Int) ≤ room) = false := decide_eq_false hle
    have he : putR room L = (lastR L, true, cutR (lastR L) L) := if_neg hle
    obtain ⟨lt, hlt⟩ : ∃ u, lastR L = u := ⟨_, rfl⟩
    rw [hlt] at he
    have HE : Hid (putR room L = (lt, true, cutR lt L)) := he
    have HG7 : Hid (Gn w5 (w5.gr q7)) := (Gn.refl _).gr q7
    have hkl : L.length - 1 < L.length := by omega
    obtain ⟨g, cap, he2, hgl, d0, d1, d2, d3, d4, d5, d6, d7, d8, d9⟩ := (HR5.out.gn HG7.out).facts hkl
    cases he2
    rw [← lastR_eq L hL0, hlt] at d0 d1 d2 d3 d4 d5 d6 d7 d8
    clear d9 hlt he
    obtain ⟨m, hm⟩ : ∃ m, L.length = m + 1 := ⟨L.length - 1, by omega⟩
    have q1 : L.length - 1 = m := by omega
    rw [q1] at d0 d1 d2 d3 d4 d5 d6 d7 d8
    replace e1 := gn_cell HG7.out e1
    have hs7 := HG7.out.size
    have hm9 : m ≤ 900 := by omega
    have HMM : Hid (L.length = m + 1) := hm
    clear hkl q1
    rw [hm] at hd hle e1 HR5 ⊢
    have hle2 : ¬ ((m : Int) + 1 ≤ room) := by omega
    have q2 : ((m + 1 : Nat) : Int) - 1 = (m : Int) := by omega
    have hd2 : decide ((m : Int) + 1 ≤ room) = false := by rw [← hd]; rfl
    clear hm e0
    go_wp2
    generalize w5.gr q7 = w7 at *
    have hxb7 : xb < w7.heap.size := by omega
    have q3 : IntKind.i64.wrap (m : Int) = (m : Int) := IntWalk.i64_in _ (by omega)
    have q4 : (0 : Int) ≤ (m : Int) := by omega
    have q5 : (m : Int) < (m : Int) + 1 := by omega
    refine wp_region_z 14 15 (by kernel_rfl) rfl ?_
    refine wpMix_pick 0 (by kernel_rfl) rfl (by kernel_rfl) (by with_reducible (repeat (first | exact Gn.refl _ | refine Gn.gr ?_ _ | refine Gn.alloc ?_ _ | refine Gn.drew ?_))) (by kernel_rfl) (fun K hK => ?_); go_simp; first | (refine hK _ ?_; clear hK K) | (apply Exists.intro; refine ⟨fun _ => ?_, hK _ ?_⟩; first | (fail); clear hK K)
    refine wpMix_pick 1 (by kernel_rfl) rfl (by kernel_rfl) (by with_reducible (repeat (first | exact Gn.refl _ | refine Gn.gr ?_ _ | refine Gn.alloc ?_ _ | refine Gn.drew ?_))) (by kernel_rfl) (fun K hK => ?_); go_simp; first | (refine hK _ ?_; clear hK K) | (apply Exists.intro; refine ⟨fun _ => ?_, hK _ ?_⟩; first | (fail); clear hK K)
    refine wpMix_pick 2 (by kernel_rfl) rfl (by kernel_rfl) (by with_reducible (repeat (first | exact Gn.refl _ | refine Gn.gr ?_ _ | refine Gn.alloc ?_ _ | refine Gn.drew ?_))) (by kernel_rfl) (fun K hK => ?_); go_simp; first | (refine hK _ ?_; clear hK K) | (apply Exists.intro; refine ⟨fun _ => ?_, hK _ ?_⟩; first | (fail); clear hK K)
    refine wpMix_pick 3 (by kernel_rfl) rfl (by kernel_rfl) (by with_reducible (repeat (first | exact Gn.refl _ | refine Gn.gr ?_ _ | refine Gn.alloc ?_ _ | refine Gn.drew ?_))) (by kernel_rfl) (fun K hK => ?_); go_simp; first | (refine hK _ ?_; clear hK K) | (apply Exists.intro; refine ⟨fun _ => ?_, hK _ ?_⟩; first | (fail); clear hK K)
    refine wpMix_pick 4 (by kernel_rfl) rfl (by kernel_rfl) (by with_reducible (repeat (first | exact Gn.refl _ | refine Gn.gr ?_ _ | refine Gn.alloc ?_ _ | refine Gn.drew ?_))) (by kernel_rfl) (fun K hK => ?_); go_simp; first | (refine hK _ ?_; clear hK K) | (apply Exists.intro; refine ⟨fun _ => ?_, hK _ ?_⟩; first | (fail); clear hK K)
    refine wpMix_pick 5 (by kernel_rfl) rfl (by kernel_rfl) (by with_reducible (repeat (first | exact Gn.refl _ | refine Gn.gr ?_ _ | refine Gn.alloc ?_ _ | refine Gn.drew ?_))) (by kernel_rfl) (fun K hK => ?_); go_simp; first | (refine hK _ ?_; clear hK K) | (apply Exists.intro; refine ⟨fun _ => ?_, hK _ ?_⟩; first | (fail); clear hK K)
    refine wpMix_pick 6 (by kernel_rfl) rfl (by kernel_rfl) (by with_reducible (repeat (first | exact Gn.refl _ | refine Gn.gr ?_ _ | refine Gn.alloc ?_ _ | refine Gn.drew ?_))) (by kernel_rfl) (fun K hK => ?_); go_simp; first | (refine hK _ ?_; clear hK K) | (apply Exists.intro; refine ⟨fun _ => ?_, hK _ ?_⟩; first | (fail); clear hK K)
    refine wpMix_pick 7 (by kernel_rfl) rfl (by kernel_rfl) (by with_reducible (repeat (first | exact Gn.refl _ | refine Gn.gr ?_ _ | refine Gn.alloc ?_ _ | refine Gn.drew ?_))) (by kernel_rfl) (fun K hK => ?_); go_simp; first | (refine hK _ ?_; clear hK K) | (apply Exists.intro; refine ⟨fun _ => ?_, hK _ ?_⟩; first | (fail); clear hK K)
    refine wpMix_pick 8 (by kernel_rfl) rfl (by kernel_rfl) (by with_reducible (repeat (first | exact Gn.refl _ | refine Gn.gr ?_ _ | refine Gn.alloc ?_ _ | refine Gn.drew ?_))) (by kernel_rfl) (fun K hK => ?_); go_simp; first | (refine hK _ ?_; clear hK K) | (apply Exists.intro; refine ⟨fun _ => ?_, hK _ ?_⟩; first | (fail); clear hK K)
    refine wpMix_pick 9 (by kernel_rfl) rfl (by kernel_rfl) (by with_reducible (repeat (first | exact Gn.refl _ | refine Gn.gr ?_ _ | refine Gn.alloc ?_ _ | refine Gn.drew ?_))) (by kernel_rfl) (fun K hK => ?_); go_simp; first | (refine hK _ ?_; clear hK K) | (apply Exists.intro; refine ⟨fun _ => ?_, hK _ ?_⟩; first | (fail); clear hK K)
    refine wpMix_pick 10 (by kernel_rfl) rfl (by kernel_rfl) (by with_reducible (repeat (first | exact Gn.refl _ | refine Gn.gr ?_ _ | refine Gn.alloc ?_ _ | refine Gn.drew ?_))) (by kernel_rfl) (fun K hK => ?_); go_simp; first | (refine hK _ ?_; clear hK K) | (apply Exists.intro; refine ⟨fun _ => ?_, hK _ ?_⟩; first | (fail); clear hK K)
    refine wpMix_pick 11 (by kernel_rfl) rfl (by kernel_rfl) (by with_reducible (repeat (first | exact Gn.refl _ | refine Gn.gr ?_ _ | refine Gn.alloc ?_ _ | refine Gn.drew ?_))) (by kernel_rfl) (fun K hK => ?_); go_simp; first | (refine hK _ ?_; clear hK K) | (apply Exists.intro; refine ⟨fun _ => ?_, hK _ ?_⟩; first | (fail); clear hK K)
    refine wpMix_pick 12 (by kernel_rfl) rfl (by kernel_rfl) (by with_reducible (repeat (first | exact Gn.refl _ | refine Gn.gr ?_ _ | refine Gn.alloc ?_ _ | refine Gn.drew ?_))) (by kernel_rfl) (fun K hK => ?_); go_simp; first | (refine hK _ ?_; clear hK K) | (apply Exists.intro; refine ⟨fun _ => ?_, hK _ ?_⟩; first | (fail); clear hK K)
    refine wpMix_one (i := 13) (by kernel_rfl) rfl ?_
    intro p14
    go_wp2
    refine ⟨(by with_reducible (repeat (first | exact Gn.refl _ | refine Gn.gr ?_ _ | refine Gn.alloc ?_ _ | refine Gn.drew ?_))), ?_⟩
    refine wpMix_one (i := 14) (by kernel_rfl) rfl ?_
    intro p15
    refine wpList_store_box rfl _ _ rfl lt (N := w7.heap.size + p14.os.size) (u := T0) rfl rfl ?_ ?_
    · have b := Bx.new (w7.gr p14) T0
      rw [size_gr] at b
      exact b.kept (Kp.of_gn (fun _ => False) ((Gn.refl _).gr p15)) (fun e => e)
    intro w8 h1 h2
    have HK8 : Hid (Kp (fun k => k = w7.heap.size + p14.os.size) w7 w8) := (Kp.of_gn _ ((((Gn.refl w7).gr p14).alloc _).gr p15)).trans (Kp.of_gb h2 (fun k e => by (cases e); rfl))
    have HG8 : Hid (Gn w5 w8) := HG7.out.trans (HK8.out.to_gn (fun k e => by omega))
    have hNl : w7.heap.size ≤ w7.heap.size + p14.os.size := by omega
    have HB8 : Hid (Bx w8 (w7.heap.size + p14.os.size) lt) := h1
    clear h1 h2 HK8 d0 d1 d2 d3 d4 d5 d6 d7 d8 e1
    generalize w7.heap.size + p14.os.size = N7 at *
    have hs8 := HG8.out.size
    go_wp2
    refine wpMix_done (by kernel_rfl) ?_
    intro pz
    have HBz : Hid (Bx (w8.gr pz) N7 lt) := HB8.out.kept (Kp.of_gn (fun _ => False) ((Gn.refl _).gr pz)) (fun e => e)
    have HMz : Hid (RM (w8.gr pz) xb (fun k => w2.heap.size ≤ k) room L) := HM5.out.gn (HG8.out.gr pz)
    have HRz : Hid (Bx (w8.gr pz) (w.heap.size + 1) T0) := HP5.out.kept (Kp.of_gn (fun _ => False) (HG8.out.gr pz)) (fun e => e)
    have hsz8 : w8.heap.size ≤ (w8.gr pz).heap.size := ((Gn.refl _).gr pz).size
    have hL10 : L.length ≤ 1000 := by omega
    go_wp2_with (first | (go_at_call 13; refine Calls.mono (rcut_any _ xb _ room L HMz.out hL10 lt) ?_; rintro _ w9 ⟨rfl, h1, h2⟩; have HM9 : Hid (RM w9 xb (fun k => (w8.gr pz).heap.size ≤ k) room (cutR lt L)) := h1; have HK9 : Hid (Kp (fun k => k = xb) (w8.gr pz) w9) := h2; have HB9 : Hid (Bx w9 N7 lt) := HBz.out.kept h2 (fun e => by omega); have HR9 : Hid (Bx w9 (w.heap.size + 1) T0) := HRz.out.kept h2 (fun e => by omega); clear h1 h2) | (refine wpList_load_box rfl _ rfl rfl HB9.out ?_) | (refine wpList_load_box rfl _ rfl rfl HBz.out ?_) | (refine wpList_store_box rfl _ _ rfl lt rfl rfl HR9.out ?_; intro w10 h1 h2; have HR10 : Hid (Bx w10 (w.heap.size + 1) lt) := h1; have HK10 : Hid (Kp (fun k => k = w.heap.size + 1) w9 w10) := Kp.of_gb h2 (fun k e => by (cases e); rfl); clear h1 h2))
    have hs9 := HK9.out.size
    have hs10 := HK10.out.size
    refine bodyPost_ret (v := .tuple #[lt.val, .bool true]) ?_ rfl ⟨?_, ?_, ?_⟩
    · obtain ⟨b0, b1, b2, b3, b4, b5, b6, b7, b8⟩ := HR10.out.cells
      simp [results, Try.results15, go_sem, b0, b1, b2, b3, b4, b5, b6, b7, b8, Tup.val, Tup.cs]
    · simp only [HL.out, HE.out]
      rfl
    · simp only [HL.out, HE.out]
      exact (HM9.out.kept HK10.out (fun e => by omega) (fun k _ e e2 => by omega)).mono (fun k _ e => by omega)
    · have k8 : Kp (fun k => k = xb ∨ w.heap.size ≤ k) w w10 := (((HW5.out.mono (fun k _ e => .inl e)).trans (Kp.of_gn _ (HG8.out.gr pz))).trans (HK9.out.mono (fun k _ e => .inl e))).trans (HK10.out.mono (fun k _ e => .inr (by omega)))
      exact k8.mono (fun k hk e => e.elim id (fun e => absurd e (by omega)))
end Go.Proofs.Ytdfhcjhhjjbpoaa
