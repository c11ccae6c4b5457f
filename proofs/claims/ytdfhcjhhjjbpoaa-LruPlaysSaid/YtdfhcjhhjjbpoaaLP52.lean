/- LruPlays' walk. -/
import Derived.Test.YtdfhcjhhjjbpoaaBO52
import Derived.Deep.CutBlock
import Derived.Deep.DeepCutAuto
namespace Go.Proofs.Ytdfhcjhhjjbpoaa
open Go.RowKit

theorem SSl.kept {w w' : World} {v : Value} {l : List St} (h : SSl w v l) (hg : Gn w w') : SSl w' v l := by
  rcases h with h | ⟨b, off, cap, rfl, hc⟩
  · exact .inl h
  · exact .inr ⟨b, off, cap, rfl, hc.kept (Kp.of_gn (fun _ => False) hg) (fun e => e)⟩
set_option maxHeartbeats 8000000 in
set_option maxRecDepth 100000 in
theorem plays_walk (room : Int) (v : Value) (l : List St) (w : World) (hv : SSl w v l) (hok : ∀ s ∈ l, s.t.ok) :
    Calls Try.prog 3 #[.int .i64 room, v] w fun e w' => e = .returned (.bool true) ∧ Gn w w' := by
  obtain ⟨o, c, rfl⟩ := hv.shape
  have HV : Hid (SSl w (.slice o l.length c) l) := hv
  have HOK : Hid (∀ s ∈ l, s.t.ok) := hok
  clear hv hok
  by_cases hlen : l.length ≤ 60
  · by_cases hr : 0 ≤ room ∧ room ≤ 1024
    · obtain ⟨n, rfl⟩ : ∃ n : Nat, room = (n : Int) := ⟨room.toNat, by omega⟩
      go_enter Try.func3, Try.ntmps3
      go_upto_region 7 with (first | (go_at_call 6; refine Calls.mono (new_ok _ n hr.1 hr.2) ?_; rintro _ w1 ⟨mb, rfl, h1, h2⟩; have HM1 : Hid (Mem w1 mb (fun k => w.heap.size ≤ k ∧ k < w1.heap.size) n [] 1) := h1.bound; have HG1 : Hid (Gn w w1) := h2; clear h1 h2) | (go_at_call 7; refine Calls.mono (rnew_ok _ n hr.1 hr.2) ?_; rintro _ w2 ⟨xb, rfl, h0, h1, h2⟩; have HX : Hid (w1.heap.size ≤ xb) := h0; have HR2 : Hid (RM w2 xb (fun _ => False) n []) := h1; have HG2 : Hid (Gn w1 w2) := h2; clear h0 h1 h2))
      have HB0 : Hid (Bo w w2 mb xb n [] (prs []) 1 (fun _ => False)) := by
        have s1 := HG1.out.size
        have s2 := HG2.out.size
        have s3 := HX.out
        exact ⟨_, HM1.out.grown HG2.out, fun j e => ⟨e.1, by omega⟩, fun e => by omega, by omega, HR2.out.mono (fun _ _ e => e.elim), HG1.out.trans HG2.out, by simp, fun _ e => e.elim⟩
      clear HM1 HR2 HX HG1 HG2
      go_loopw [7] (fun i wr => ∃ (k : Nat) (es : List Ent), k ≤ l.length ∧ i = .int .i64 k ∧ Bo w wr mb xb n es (prs es) (k + 1) (fun _ => False)) (fun i _ => l.length - (intOf i).toNat)
      case atStart => exact ⟨0, [], by omega, rfl, HB0.out⟩
      case round =>
        clear HB0
        obtain ⟨k, es, hk, rfl, hB⟩ := hrel
        have HB : Hid (Bo w wr mb xb n es (prs es) (k + 1) (fun _ => False)) := hB
        have HG : Hid (Gn w wr) := hB.gnw
        clear hB
        by_cases hkl : k < l.length
        · obtain ⟨b, off, cap, he, hT⟩ := (HV.out.kept HG.out).row (by omega)
          cases he
          have hbw : b < w.heap.size := by
            obtain ⟨b', off', cap', he', hT'⟩ := HV.out.row (by omega)
            cases he'
            exact hT'.1
          obtain ⟨d0, d1, d2, d3, d4, d5, d6, d7, d8, d9, d10⟩ := hT.facts hkl
          have hbl := hT.1
          have hki : (k : Int) < (l.length : Int) := by omega
          have HT : Hid (SC wr b off l) := hT
          clear hT
          have HND : Hid ((es.map (·.t)).Nodup) := HB.out.nodup
          have hen := HB.out.le
          have hxb := HB.out.xlt
          have hes : es.length ≤ 900 := by have := HB.out.len; omega
          have HOKt : Hid ((sl l k).t.ok) := HOK.out _ (sl_mem hkl)
          generalize (sl l k).t = t at *
          generalize (sl l k).n = x at *
          generalize (sl l k).k = kd at *
          go_upto_region 10 with (fail)
          have HA1 : Hid (Bo w (wr.alloc (.cells t.cs 32)) mb xb n es (prs es) (k + 1) (fun j => j = wr.heap.size)) := (HB.out.gn ((Gn.refl _).alloc _)).sub (fun j e => .inr (by subst e; rw [size_alloc]; omega))
          have HX1 : Hid (Bx (wr.alloc (.cells t.cs 32)) wr.heap.size t) := Bx.new _ _
          have HG1 : Hid (Gn wr (wr.alloc (.cells t.cs 32))) := (Gn.refl _).alloc _
          have hNb : ¬ b = wr.heap.size := by have := HG.out.size; omega
          have hNx : ¬ xb = wr.heap.size := by omega
          replace d0 := gn_cell HG1.out d0
          replace d10 := gn_cell HG1.out d10
          have hN1 : wr.heap.size < (wr.alloc (.cells t.cs 32)).heap.size := by rw [size_alloc]; omega
          have hb1 : b < (wr.alloc (.cells t.cs 32)).heap.size := by rw [size_alloc]; omega
          simp only [Tup.cs] at HA1 HX1 HG1 hN1 hb1 d0 d10
          generalize wr.alloc _ = w1 at *
          generalize wr.heap.size = N at *
          have hw1 : w.heap.size ≤ w1.heap.size := (HG.out.trans HG1.out).size
          have hbw1 : ¬ b = w1.heap.size := by omega
          have hNw1 : ¬ N = w1.heap.size := by omega
          clear d1 d2 d3 d4 d5 d6 d7 d8 d9 hbl HT HB hxb
          go_upto_block 2 with (fail)
          go_cut [] (fun wx => ∃ es2, Bo w wx mb xb n es2 (prs es2) (k + 1 + 1) (fun _ => False))
          case first =>
            by_cases h4 : kd = 4
            · subst h4
              go_upto_region 26 with (fail)
              obtain ⟨b0, b1, b2, b3, b4, b5, b6, b7, b8⟩ := HX1.out.cells
              go_region_held3 (fun w' => w'.cell? ⟨N, 0, none⟩ = some (.int .i64 t.p) ∧ w'.cell? ⟨N, 1, none⟩ = some (.bool t.a) ∧ w'.cell? ⟨N, 2, none⟩ = some (.int .u64 t.b) ∧ w'.cell? ⟨N, 3, none⟩ = some (.int .u64 t.c) ∧ w'.cell? ⟨N, 4, none⟩ = some (.bool t.d) ∧ w'.cell? ⟨N, 5, none⟩ = some (.int .u64 t.e) ∧ w'.cell? ⟨N, 6, none⟩ = some (.int .u64 t.f) ∧ w'.cell? ⟨N, 7, none⟩ = some (.int .i64 t.s) ∧ w'.cell? ⟨N, 8, none⟩ = some (.int .i64 t.t))
                (first | go_keep | (go_split_ands <;> assumption))
                (first
                  | (go_at_call 12; refine Calls.mono (bo_cut ((HA1.out.gn (by with_reducible (repeat (first | exact Gn.refl _ | refine Gn.gr ?_ _ | refine Gn.alloc ?_ _ | refine Gn.drew ?_)))).sub (F' := fun j => j = N) (fun _ e => .inl e)) (by omega) t HOKt.out) ?_; rintro _ w2 ⟨rfl, h1, h2⟩; have HA2 : Hid (Bo w w2 mb xb n (cutE t es) (prs es) (k + 1) (fun j => j = N)) := h1; have HX2 : Hid (Bx w2 N t) := (HX1.out.kept (Kp.of_gn (fun _ => False) (by with_reducible (repeat (first | exact Gn.refl _ | refine Gn.gr ?_ _ | refine Gn.alloc ?_ _ | refine Gn.drew ?_)))) (fun e => e)).kept h2 (fun e => e.2 rfl); obtain ⟨b0, b1, b2, b3, b4, b5, b6, b7, b8⟩ := HX2.out.cells; clear h1 h2)
                  | (go_at_call 13; refine Calls.mono (bo_rcut ((HA2.out.gn (by with_reducible (repeat (first | exact Gn.refl _ | refine Gn.gr ?_ _ | refine Gn.alloc ?_ _ | refine Gn.drew ?_)))).sub (F' := fun j => j = N) (fun _ e => .inl e)) hes t) ?_; rintro _ w3 ⟨rfl, h1, h2⟩; have HA3 : Hid (Bo w w3 mb xb n (cutE t es) (prs (cutE t es)) (k + 1) (fun j => j = N)) := h1; have HX3 : Hid (Bx w3 N t) := (HX2.out.kept (Kp.of_gn (fun _ => False) (by with_reducible (repeat (first | exact Gn.refl _ | refine Gn.gr ?_ _ | refine Gn.alloc ?_ _ | refine Gn.drew ?_)))) (fun e => e)).kept h2 (fun e => hNx e.symm); obtain ⟨b0, b1, b2, b3, b4, b5, b6, b7, b8⟩ := HX3.out.cells; clear h1 h2))
              go_wp2_with (fail)
              go_meet
              case rel => exact ⟨cutE t es, (HA3.out.sub (fun _ e => e.elim)).more (by omega)⟩
            · by_cases h2 : kd = 2
              · subst h2
                obtain ⟨b0, b1, b2, b3, b4, b5, b6, b7, b8⟩ := HX1.out.cells
                go_wp2_with (first
                  | (go_at_call 8; refine Calls.mono (bo_get HA1.out (by omega) t HOKt.out) ?_; rintro _ w2 ⟨rfl, h1, h2⟩; have HA2 : Hid (Bo w w2 mb xb n (gE t es) (prs es) (k + 1) (fun j => j = N)) := h1; have HX2 : Hid (Bx w2 N t) := HX1.out.kept h2 (fun e => e.2 rfl); clear b0 b1 b2 b3 b4 b5 b6 b7 b8; obtain ⟨b0, b1, b2, b3, b4, b5, b6, b7, b8⟩ := HX2.out.cells; clear h1 h2)
                  | (go_at_call 9; refine Calls.mono (bo_rget HA2.out HND.out hen hes t) ?_; rintro _ w3 ⟨rfl, h1, h2⟩; have HA3 : Hid (Bo w w3 mb xb n (gE t es) (prs (gE t es)) (k + 1) (fun j => j = N)) := h1; clear h1 h2))
                go_meet
                case rel => exact ⟨gE t es, (HA3.out.sub (fun _ e => e.elim)).more (by omega)⟩
              · by_cases h3 : kd = 3
                · subst h3
                  obtain ⟨b0, b1, b2, b3, b4, b5, b6, b7, b8⟩ := HX1.out.cells
                  go_wp2_with (first
                    | (go_at_call 10; refine Calls.mono (bo_peek HA1.out (by omega) t HOKt.out) ?_; rintro _ w2 ⟨rfl, h2⟩; have HA2 : Hid (Bo w w2 mb xb n es (prs es) (k + 1) (fun j => j = N)) := (HA1.out.gn h2).sub (fun _ e => .inl e); have HX2 : Hid (Bx w2 N t) := HX1.out.kept (Kp.of_gn (fun _ => False) h2) (fun e => e); clear b0 b1 b2 b3 b4 b5 b6 b7 b8; obtain ⟨b0, b1, b2, b3, b4, b5, b6, b7, b8⟩ := HX2.out.cells; clear h2)
                    | (go_at_call 11; refine Calls.mono (bo_rpeek HA2.out (by omega) t) ?_; rintro _ w3 ⟨rfl, h2⟩; have HA3 : Hid (Bo w w3 mb xb n es (prs es) (k + 1) (fun j => j = N)) := (HA2.out.gn h2).sub (fun _ e => .inl e); clear h2))
                  go_meet
                  case rel => exact ⟨es, (HA3.out.sub (fun _ e => e.elim)).more (by omega)⟩
                · have q2 : (kd == 2) = false := by simp [h2]
                  have q3 : (kd == 3) = false := by simp [h3]
                  have q4 : (kd == 4) = false := by simp [h4]
                  obtain ⟨lt, hlt⟩ : ∃ u, (pE n t x es 0).1 = u := ⟨_, rfl⟩
                  obtain ⟨fb, hfb⟩ : ∃ u, (pE n t x es 0).2.1 = u := ⟨_, rfl⟩
                  have HLT : Hid ((pE n t x es 0).1 = lt) := hlt
                  have HFB : Hid ((pE n t x es 0).2.1 = fb) := hfb
                  clear hlt hfb
                  go_upto_region 11 with (fail)
                  obtain ⟨b0, b1, b2, b3, b4, b5, b6, b7, b8⟩ := HX1.out.cells
                  go_cut [17, 18] (fun s17 s18 wx => ∃ p M, s17 = .pointer (some ⟨M, 0, none⟩) ∧ s18 = .bool fb ∧ N < M ∧ Bx wx M lt ∧ Bx wx N t ∧ Bo w wx mb xb n (pE n t x es p).2.2 (prs es) (k + 1 + 1) (fun j => j = N ∨ j = M) ∧ wx.cell? ⟨b, off + k * 11 + 10, none⟩ = some (.int .i64 x))
                  case first =>
                    refine wp_region_noPanic ?_
                    refine wp_region_held_drew (S := (fun w' => w'.cell? ⟨N, 0, none⟩ = some (.int .i64 t.p) ∧ w'.cell? ⟨N, 1, none⟩ = some (.bool t.a) ∧ w'.cell? ⟨N, 2, none⟩ = some (.int .u64 t.b) ∧ w'.cell? ⟨N, 3, none⟩ = some (.int .u64 t.c) ∧ w'.cell? ⟨N, 4, none⟩ = some (.bool t.d) ∧ w'.cell? ⟨N, 5, none⟩ = some (.int .u64 t.e) ∧ w'.cell? ⟨N, 6, none⟩ = some (.int .u64 t.f) ∧ w'.cell? ⟨N, 7, none⟩ = some (.int .i64 t.s) ∧ w'.cell? ⟨N, 8, none⟩ = some (.int .i64 t.t) ∧ w'.cell? ⟨b, off + k * 11 + 10, none⟩ = some (.int .i64 x))) (by kernel_rfl) ?_ (fun hHeld => ?_)
                    · first | go_keep | (go_split_ands <;> assumption)
                    refine wpAnyH_take (i := 0) (oi := ({ dst := some 55, op := Go.Op.move (Go.Operand.tmp 5), type := 24, pos := "law.go:52", after := #[], guard := none } : Go.Oper)) (v := ?_) rfl (by kernel_rfl) (by kernel_rfl) (by kernel_rfl) (fun _ _ _ h => h) (Or.inl ⟨by rfl, ?_⟩) (by assumption) ?_
                    rotate_left
                    · intro w hSw; (try dsimp only at hSw); go_simp
                      try with_reducible rfl
                    try simp only [Act.put, List.setIfInBounds_toArray, List.set_cons_zero, List.set_cons_succ]
                    refine wpAnyH_take (i := 1) (oi := ({ dst := some 56, op := Go.Op.load 32 (Go.Operand.tmp 8), type := 32, pos := "law.go:52", after := #[], guard := none } : Go.Oper)) (v := ?_) rfl (by kernel_rfl) (by kernel_rfl) (by kernel_rfl) (fun _ _ _ h => h) (Or.inl ⟨by rfl, ?_⟩) (by assumption) ?_
                    rotate_left
                    · intro w hSw; (try dsimp only at hSw); go_simp
                      try with_reducible rfl
                    try simp only [Act.put, List.setIfInBounds_toArray, List.set_cons_zero, List.set_cons_succ]
                    refine wpAnyH_take (i := 2) (oi := ({ dst := some 57, op := Go.Op.move (Go.Operand.tmp 1), type := 22, pos := "law.go:52", after := #[], guard := none } : Go.Oper)) (v := ?_) rfl (by kernel_rfl) (by kernel_rfl) (by kernel_rfl) (fun _ _ _ h => h) (Or.inl ⟨by rfl, ?_⟩) (by assumption) ?_
                    rotate_left
                    · intro w hSw; (try dsimp only at hSw); go_simp
                      try with_reducible rfl
                    try simp only [Act.put, List.setIfInBounds_toArray, List.set_cons_zero, List.set_cons_succ]
                    refine wpAnyH_take (i := 3) (oi := ({ dst := some 58, op := Go.Op.move (Go.Operand.tmp 7), type := 3, pos := "law.go:52", after := #[], guard := none } : Go.Oper)) (v := ?_) rfl (by kernel_rfl) (by kernel_rfl) (by kernel_rfl) (fun _ _ _ h => h) (Or.inl ⟨by rfl, ?_⟩) (by assumption) ?_
                    rotate_left
                    · intro w hSw; (try dsimp only at hSw); go_simp
                      try with_reducible rfl
                    try simp only [Act.put, List.setIfInBounds_toArray, List.set_cons_zero, List.set_cons_succ]
                    refine wpAnyH_take (i := 4) (oi := ({ dst := some 59, op := Go.Op.indexAddr 22 (Go.Operand.tmp 57) (Go.Operand.tmp 58), type := 0, pos := "law.go:52", after := #[{ on := 2, ground := Go.Ground.data }, { on := 3, ground := Go.Ground.data }], guard := none } : Go.Oper)) (v := ?_) rfl (by kernel_rfl) (by kernel_rfl) (by kernel_rfl) (fun _ _ _ h => h) (Or.inl ⟨by rfl, ?_⟩) (by assumption) ?_
                    rotate_left
                    · intro w hSw; (try dsimp only at hSw); go_simp
                      try with_reducible rfl
                    try simp only [Act.put, List.setIfInBounds_toArray, List.set_cons_zero, List.set_cons_succ]
                    refine wpAnyH_take (i := 5) (oi := ({ dst := some 60, op := Go.Op.fieldAddr 34 (Go.Operand.tmp 59) 2, type := 0, pos := "law.go:52", after := #[{ on := 4, ground := Go.Ground.data }], guard := none } : Go.Oper)) (v := ?_) rfl (by kernel_rfl) (by kernel_rfl) (by kernel_rfl) (fun _ _ _ h => h) (Or.inl ⟨by rfl, ?_⟩) (by assumption) ?_
                    rotate_left
                    · intro w hSw; (try dsimp only at hSw); go_simp
                      try with_reducible rfl
                    try simp only [Act.put, List.setIfInBounds_toArray, List.set_cons_zero, List.set_cons_succ]
                    refine wpAnyH_take (i := 6) (oi := ({ dst := some 61, op := Go.Op.load 3 (Go.Operand.tmp 60), type := 3, pos := "law.go:52", after := #[{ on := 5, ground := Go.Ground.data }], guard := none } : Go.Oper)) (v := ?_) rfl (by kernel_rfl) (by kernel_rfl) (by kernel_rfl) (fun _ _ _ h => h) (Or.inl ⟨by rfl, ?_⟩) (by assumption) ?_
                    rotate_left
                    · intro w hSw; (try dsimp only at hSw); go_simp
                      try with_reducible rfl
                    try simp only [Act.put, List.setIfInBounds_toArray, List.set_cons_zero, List.set_cons_succ]
                    refine wpAnyH_ready (rs := [7, 11]) (by kernel_rfl) (by simp) ?_
                    refine AllReadyH.cons (o := ({ dst := some 62, op := Go.Op.call { callee := Go.Callee.value (Go.Operand.func 14), args := #[Go.Operand.tmp 55, Go.Operand.tmp 56, Go.Operand.tmp 61], argTypes := #[24, 32, 3] }, type := 38, pos := "law.go:52", after := #[{ on := 0, ground := Go.Ground.data }, { on := 1, ground := Go.Ground.data }, { on := 6, ground := Go.Ground.data }], guard := none } : Go.Oper)) rfl (fun K hK => ?_) ?_
                    · go_simp
                      (go_at_call 14; refine Calls.mono (bo_put (HA1.out.gn (by with_reducible (repeat (first | exact Gn.refl _ | refine Gn.gr ?_ _ | refine Gn.alloc ?_ _ | refine Gn.drew ?_)))) (by omega) t HOKt.out x) ?_; rintro _ w2 ⟨p, rfl, h1, h2⟩; rw [HLT.out, HFB.out]; simp only [Tup.val, Tup.cs]; have HXn : Hid (Bx w2 N t) := (HX1.out.kept (Kp.of_gn (fun _ => False) (by with_reducible (repeat (first | exact Gn.refl _ | refine Gn.gr ?_ _ | refine Gn.alloc ?_ _ | refine Gn.drew ?_)))) (fun e => e)).kept h2 (fun e => e.2 (.inl rfl)); have e10 := h2.cell (gn_cell (by with_reducible (repeat (first | exact Gn.refl _ | refine Gn.gr ?_ _ | refine Gn.alloc ?_ _ | refine Gn.drew ?_))) d10) (fun e => by omega); clear b0 b1 b2 b3 b4 b5 b6 b7 b8; obtain ⟨b0, b1, b2, b3, b4, b5, b6, b7, b8⟩ := HXn.out.cells; have HA2 := hidIt h1; have HK2 := hidIt h2; clear h1 h2)
                      refine hK.out _ _ ?_ (fun hHeld => ?_)
                      · first | go_keep | (go_split_ands <;> assumption)
                      clear hK K
                      try simp only [Act.put, List.setIfInBounds_toArray, List.set_cons_zero, List.set_cons_succ]
                      refine wpAnyH_take (i := 8) (oi := ({ dst := some 54, op := Go.Op.move (Go.Operand.tmp 62), type := 38, pos := "law.go:52", after := #[{ on := 7, ground := Go.Ground.data }], guard := none } : Go.Oper)) (v := ?_) rfl (by kernel_rfl) (by kernel_rfl) (by kernel_rfl) (fun _ _ _ h => h) (Or.inl ⟨by rfl, ?_⟩) (by assumption) ?_
                      rotate_left
                      · intro w hSw; (try dsimp only at hSw); go_simp
                        try with_reducible rfl
                      try simp only [Act.put, List.setIfInBounds_toArray, List.set_cons_zero, List.set_cons_succ]
                      refine wpAnyH_take (i := 9) (oi := ({ dst := some 63, op := Go.Op.extract (Go.Operand.tmp 54) 0, type := 32, pos := "law.go:52", after := #[{ on := 8, ground := Go.Ground.data }], guard := none } : Go.Oper)) (v := ?_) rfl (by kernel_rfl) (by kernel_rfl) (by kernel_rfl) (fun _ _ _ h => h) (Or.inl ⟨by rfl, ?_⟩) (by assumption) ?_
                      rotate_left
                      · intro w hSw; (try dsimp only at hSw); go_simp
                        try with_reducible rfl
                      try simp only [Act.put, List.setIfInBounds_toArray, List.set_cons_zero, List.set_cons_succ]
                      refine wpAnyH_take (i := 10) (oi := ({ dst := some 64, op := Go.Op.extract (Go.Operand.tmp 54) 1, type := 4, pos := "law.go:52", after := #[{ on := 8, ground := Go.Ground.data }, { on := 12, ground := Go.Ground.gcOnly Go.Departure.lateStores }], guard := none } : Go.Oper)) (v := ?_) rfl (by kernel_rfl) (by kernel_rfl) (by kernel_rfl) (fun _ _ _ h => h) (Or.inl ⟨by rfl, ?_⟩) (by assumption) ?_
                      rotate_left
                      · intro w hSw; (try dsimp only at hSw); go_simp
                        try with_reducible rfl
                      try simp only [Act.put, List.setIfInBounds_toArray, List.set_cons_zero, List.set_cons_succ]
                      refine wpAnyH_ready (rs := [11]) (by kernel_rfl) (by simp) ?_
                      refine AllReadyH.cons (o := ({ dst := some 17, op := Go.Op.alloc 32, type := 0, pos := "law.go:52", after := #[], guard := none } : Go.Oper)) rfl (fun K hK => ?_) ?_
                      · go_simp
                        refine hK.out _ _ ?_ (fun hHeld => ?_)
                        · first | go_keep | (go_split_ands <;> assumption)
                        clear hK K
                        try simp only [Act.put, List.setIfInBounds_toArray, List.set_cons_zero, List.set_cons_succ]
                        refine wpAnyH_ready (rs := [12]) (by kernel_rfl) (by simp) ?_
                        refine AllReadyH.cons (o := ({ dst := none, op := Go.Op.store 32 (Go.Operand.tmp 17) (Go.Operand.tmp 63), type := 0, pos := "law.go:52", after := #[{ on := 11, ground := Go.Ground.data }, { on := 9, ground := Go.Ground.data }, { on := 7, ground := Go.Ground.chain }, { on := 0, ground := Go.Ground.phase }, { on := 1, ground := Go.Ground.phase }, { on := 2, ground := Go.Ground.phase }, { on := 3, ground := Go.Ground.phase }, { on := 4, ground := Go.Ground.phase }, { on := 5, ground := Go.Ground.phase }, { on := 6, ground := Go.Ground.phase }, { on := 7, ground := Go.Ground.phase }, { on := 8, ground := Go.Ground.phase }, { on := 9, ground := Go.Ground.phase }, { on := 10, ground := Go.Ground.textOnly Go.Departure.lateStores }, { on := 11, ground := Go.Ground.phase }], guard := none } : Go.Oper)) rfl (fun K hK => ?_) ?_
                        · go_simp
                          refine hK.out _ _ ?_ (fun hHeld => ?_)
                          · first | go_keep | (go_split_ands <;> assumption)
                          clear hK K
                          try simp only [Act.put, List.setIfInBounds_toArray, List.set_cons_zero, List.set_cons_succ]
                          refine wpAnyH_take (i := 13) (oi := ({ dst := some 18, op := Go.Op.assign (Go.Operand.tmp 64), type := 4, pos := "law.go:52", after := #[{ on := 10, ground := Go.Ground.data }, { on := 12, ground := Go.Ground.chain }, { on := 0, ground := Go.Ground.phase }, { on := 1, ground := Go.Ground.phase }, { on := 2, ground := Go.Ground.phase }, { on := 3, ground := Go.Ground.phase }, { on := 4, ground := Go.Ground.phase }, { on := 5, ground := Go.Ground.phase }, { on := 6, ground := Go.Ground.phase }, { on := 7, ground := Go.Ground.phase }, { on := 8, ground := Go.Ground.phase }, { on := 9, ground := Go.Ground.phase }, { on := 10, ground := Go.Ground.phase }, { on := 11, ground := Go.Ground.phase }, { on := 12, ground := Go.Ground.phase }], guard := none } : Go.Oper)) (v := ?_) rfl (by kernel_rfl) (by kernel_rfl) (by kernel_rfl) (fun _ _ _ h => h) (Or.inl ⟨by rfl, ?_⟩) (by assumption) ?_
                          rotate_left
                          · intro w hSw; (try dsimp only at hSw); go_simp
                            try with_reducible rfl
                          try simp only [Act.put, List.setIfInBounds_toArray, List.set_cons_zero, List.set_cons_succ]
                          refine wpAnyH_done (by kernel_rfl) ?_ _
                          refine NoPanic.normal ?_
                          go_wp2_with (fail)
                          go_meet
                          case rel =>
                            refine ⟨p, w2.heap.size, rfl, rfl, Nat.lt_of_lt_of_le hN1 HK2.out.size, Bx.new w2 lt, Bx.kept HXn.out (Kp.of_gn (fun _ => False) ((Gn.refl w2).alloc _)) (fun e => e), (HA2.out.gn ((Gn.refl w2).alloc _)).sub (fun j e => ?_), gn_cell ((Gn.refl w2).alloc _) e10⟩
                            rcases e with rfl | rfl
                            · exact .inl (.inl rfl)
                            · exact .inr ⟨Nat.le_refl _, by rw [size_alloc]; omega⟩
                        exact AllReadyH.nil
                      exact AllReadyH.nil
                    refine AllReadyH.cons (o := ({ dst := some 17, op := Go.Op.alloc 32, type := 0, pos := "law.go:52", after := #[], guard := none } : Go.Oper)) rfl (fun K hK => ?_) ?_
                    · go_simp
                      refine hK.out _ _ ?_ (fun hHeld => ?_)
                      · first | go_keep | (go_split_ands <;> assumption)
                      clear hK K
                      try simp only [Act.put, List.setIfInBounds_toArray, List.set_cons_zero, List.set_cons_succ]
                      refine wpAnyH_ready (rs := [7]) (by kernel_rfl) (by simp) ?_
                      refine AllReadyH.cons (o := ({ dst := some 62, op := Go.Op.call { callee := Go.Callee.value (Go.Operand.func 14), args := #[Go.Operand.tmp 55, Go.Operand.tmp 56, Go.Operand.tmp 61], argTypes := #[24, 32, 3] }, type := 38, pos := "law.go:52", after := #[{ on := 0, ground := Go.Ground.data }, { on := 1, ground := Go.Ground.data }, { on := 6, ground := Go.Ground.data }], guard := none } : Go.Oper)) rfl (fun K hK => ?_) ?_
                      · go_simp
                        (go_at_call 14; refine Calls.mono (bo_put (HA1.out.gn (by with_reducible (repeat (first | exact Gn.refl _ | refine Gn.gr ?_ _ | refine Gn.alloc ?_ _ | refine Gn.drew ?_)))) (by omega) t HOKt.out x) ?_; rintro _ w2 ⟨p, rfl, h1, h2⟩; rw [HLT.out, HFB.out]; simp only [Tup.val, Tup.cs]; have HXn : Hid (Bx w2 N t) := (HX1.out.kept (Kp.of_gn (fun _ => False) (by with_reducible (repeat (first | exact Gn.refl _ | refine Gn.gr ?_ _ | refine Gn.alloc ?_ _ | refine Gn.drew ?_)))) (fun e => e)).kept h2 (fun e => e.2 (.inl rfl)); have e10 := h2.cell (gn_cell (by with_reducible (repeat (first | exact Gn.refl _ | refine Gn.gr ?_ _ | refine Gn.alloc ?_ _ | refine Gn.drew ?_))) d10) (fun e => by omega); clear b0 b1 b2 b3 b4 b5 b6 b7 b8; obtain ⟨b0, b1, b2, b3, b4, b5, b6, b7, b8⟩ := HXn.out.cells; have HZ : Hid (Bx w2 w1.heap.size T0) := h2.bx (fun e => e.2 (.inr ⟨Nat.le_refl _, by simp⟩)) (Bx.new w1 T0); have HA2 := hidIt h1; have HK2 := hidIt h2; clear h1 h2)
                        refine hK.out _ _ ?_ (fun hHeld => ?_)
                        · first | go_keep | (go_split_ands <;> assumption)
                        clear hK K
                        try simp only [Act.put, List.setIfInBounds_toArray, List.set_cons_zero, List.set_cons_succ]
                        refine wpAnyH_take (i := 8) (oi := ({ dst := some 54, op := Go.Op.move (Go.Operand.tmp 62), type := 38, pos := "law.go:52", after := #[{ on := 7, ground := Go.Ground.data }], guard := none } : Go.Oper)) (v := ?_) rfl (by kernel_rfl) (by kernel_rfl) (by kernel_rfl) (fun _ _ _ h => h) (Or.inl ⟨by rfl, ?_⟩) (by assumption) ?_
                        rotate_left
                        · intro w hSw; (try dsimp only at hSw); go_simp
                          try with_reducible rfl
                        try simp only [Act.put, List.setIfInBounds_toArray, List.set_cons_zero, List.set_cons_succ]
                        refine wpAnyH_take (i := 9) (oi := ({ dst := some 63, op := Go.Op.extract (Go.Operand.tmp 54) 0, type := 32, pos := "law.go:52", after := #[{ on := 8, ground := Go.Ground.data }], guard := none } : Go.Oper)) (v := ?_) rfl (by kernel_rfl) (by kernel_rfl) (by kernel_rfl) (fun _ _ _ h => h) (Or.inl ⟨by rfl, ?_⟩) (by assumption) ?_
                        rotate_left
                        · intro w hSw; (try dsimp only at hSw); go_simp
                          try with_reducible rfl
                        try simp only [Act.put, List.setIfInBounds_toArray, List.set_cons_zero, List.set_cons_succ]
                        refine wpAnyH_take (i := 10) (oi := ({ dst := some 64, op := Go.Op.extract (Go.Operand.tmp 54) 1, type := 4, pos := "law.go:52", after := #[{ on := 8, ground := Go.Ground.data }, { on := 12, ground := Go.Ground.gcOnly Go.Departure.lateStores }], guard := none } : Go.Oper)) (v := ?_) rfl (by kernel_rfl) (by kernel_rfl) (by kernel_rfl) (fun _ _ _ h => h) (Or.inl ⟨by rfl, ?_⟩) (by assumption) ?_
                        rotate_left
                        · intro w hSw; (try dsimp only at hSw); go_simp
                          try with_reducible rfl
                        try simp only [Act.put, List.setIfInBounds_toArray, List.set_cons_zero, List.set_cons_succ]
                        refine wpAnyH_ready (rs := [12]) (by kernel_rfl) (by simp) ?_
                        refine AllReadyH.cons (o := ({ dst := none, op := Go.Op.store 32 (Go.Operand.tmp 17) (Go.Operand.tmp 63), type := 0, pos := "law.go:52", after := #[{ on := 11, ground := Go.Ground.data }, { on := 9, ground := Go.Ground.data }, { on := 7, ground := Go.Ground.chain }, { on := 0, ground := Go.Ground.phase }, { on := 1, ground := Go.Ground.phase }, { on := 2, ground := Go.Ground.phase }, { on := 3, ground := Go.Ground.phase }, { on := 4, ground := Go.Ground.phase }, { on := 5, ground := Go.Ground.phase }, { on := 6, ground := Go.Ground.phase }, { on := 7, ground := Go.Ground.phase }, { on := 8, ground := Go.Ground.phase }, { on := 9, ground := Go.Ground.phase }, { on := 10, ground := Go.Ground.textOnly Go.Departure.lateStores }, { on := 11, ground := Go.Ground.phase }], guard := none } : Go.Oper)) rfl (fun K hK => ?_) ?_
                        · rw [if_pos (by rfl)]
                          refine wp_store_box (u := T0) rfl lt rfl rfl HZ.out ?_
                          intro w3 h3 h4
                          have HX3 : Hid (Bx w3 N t) := h4.bx (fun e => by omega) HXn.out
                          replace e10 := h4.cell e10 (fun e => by omega)
                          clear b0 b1 b2 b3 b4 b5 b6 b7 b8
                          obtain ⟨b0, b1, b2, b3, b4, b5, b6, b7, b8⟩ := HX3.out.cells
                          have HZ3 : Hid _ := h3
                          have HK3 : Hid _ := h4
                          clear h3 h4
                          refine hK.out _ _ ?_ (fun hHeld => ?_)
                          · first | go_keep | (go_split_ands <;> assumption)
                          clear hK K
                          try simp only [Act.put, List.setIfInBounds_toArray, List.set_cons_zero, List.set_cons_succ]
                          refine wpAnyH_take (i := 13) (oi := ({ dst := some 18, op := Go.Op.assign (Go.Operand.tmp 64), type := 4, pos := "law.go:52", after := #[{ on := 10, ground := Go.Ground.data }, { on := 12, ground := Go.Ground.chain }, { on := 0, ground := Go.Ground.phase }, { on := 1, ground := Go.Ground.phase }, { on := 2, ground := Go.Ground.phase }, { on := 3, ground := Go.Ground.phase }, { on := 4, ground := Go.Ground.phase }, { on := 5, ground := Go.Ground.phase }, { on := 6, ground := Go.Ground.phase }, { on := 7, ground := Go.Ground.phase }, { on := 8, ground := Go.Ground.phase }, { on := 9, ground := Go.Ground.phase }, { on := 10, ground := Go.Ground.phase }, { on := 11, ground := Go.Ground.phase }, { on := 12, ground := Go.Ground.phase }], guard := none } : Go.Oper)) (v := ?_) rfl (by kernel_rfl) (by kernel_rfl) (by kernel_rfl) (fun _ _ _ h => h) (Or.inl ⟨by rfl, ?_⟩) (by assumption) ?_
                          rotate_left
                          · intro w hSw; (try dsimp only at hSw); go_simp
                            try with_reducible rfl
                          try simp only [Act.put, List.setIfInBounds_toArray, List.set_cons_zero, List.set_cons_succ]
                          refine wpAnyH_done (by kernel_rfl) ?_ _
                          refine NoPanic.normal ?_
                          go_wp2_with (fail)
                          go_meet
                          case rel =>
                            refine ⟨p, w1.heap.size, rfl, rfl, hN1, HZ3.out, HX3.out, (HA2.out.sub (F' := fun j => j = N ∨ j = w1.heap.size) (fun j e => ?_)).kp HK3.out (fun j e => ⟨.inr e, by omega⟩), e10⟩
                            rcases e with rfl | rfl
                            · exact .inl rfl
                            · exact .inr ⟨Nat.le_refl _, by simp⟩
                        exact AllReadyH.nil
                      exact AllReadyH.nil
                    exact AllReadyH.nil
                  case rest =>
                    obtain ⟨p, M, rfl, rfl, hNM, hM, hN, hB, e10⟩ := hcut
                    obtain ⟨w5, rfl⟩ : ∃ w5 : World, w5 = wc := ⟨_, rfl⟩
                    have HX5 : Hid (Bx w5 N t) := hN
                    have HM5 : Hid (Bx w5 M lt) := hM
                    have hMx : ¬ M = xb := hB.ne (.inr rfl)
                    have hx5 := hB.xlt
                    have hMl : M < w5.heap.size := lt_of_block hM
                    have hNl : N < w5.heap.size := lt_of_block hN
                    have hbl : b < w5.heap.size := World.block_lt_of_cell? _ _ e10
                    obtain ⟨es2, hes2⟩ : ∃ e, (pE n t x es p).2.2 = e := ⟨_, rfl⟩
                    have HE2 : Hid ((pE n t x es p).2.2 = es2) := hes2
                    rw [hes2] at hB
                    have HA5 : Hid (Bo w w5 mb xb n es2 (prs es) (k + 1 + 1) (fun j => j = N ∨ j = M)) := hB
                    clear hN hM hB hes2 d0 d10 HA1 HX1 HG1 hN1 hb1 hbw1 hNw1 b0 b1 b2 b3 b4 b5 b6 b7 b8
                    have d10 := e10
                    clear e10
                    go_upto_region 12 with (fail)
                    obtain ⟨b0, b1, b2, b3, b4, b5, b6, b7, b8⟩ := HX5.out.cells
                    go_cut [19, 20] (fun s19 s20 wx => ∃ M2, s19 = .pointer (some ⟨M2, 0, none⟩) ∧ s20 = .bool fb ∧ Bx wx M2 lt ∧ Bx wx M lt ∧ Bo w wx mb xb n es2 (prs (pE n t x es 0).2.2) (k + 1 + 1) (fun _ => False))
                    case first =>
                      refine wp_region_noPanic ?_
                      refine wp_region_held_drew (S := (fun w' => w'.cell? ⟨N, 0, none⟩ = some (.int .i64 t.p) ∧ w'.cell? ⟨N, 1, none⟩ = some (.bool t.a) ∧ w'.cell? ⟨N, 2, none⟩ = some (.int .u64 t.b) ∧ w'.cell? ⟨N, 3, none⟩ = some (.int .u64 t.c) ∧ w'.cell? ⟨N, 4, none⟩ = some (.bool t.d) ∧ w'.cell? ⟨N, 5, none⟩ = some (.int .u64 t.e) ∧ w'.cell? ⟨N, 6, none⟩ = some (.int .u64 t.f) ∧ w'.cell? ⟨N, 7, none⟩ = some (.int .i64 t.s) ∧ w'.cell? ⟨N, 8, none⟩ = some (.int .i64 t.t) ∧ w'.cell? ⟨b, off + k * 11 + 10, none⟩ = some (.int .i64 x))) (by kernel_rfl) ?_ (fun hHeld => ?_)
                      · first | go_keep | (go_split_ands <;> assumption)
                      refine wpAnyH_take (i := 0) (oi := ({ dst := some 66, op := Go.Op.move (Go.Operand.tmp 6), type := 26, pos := "law.go:53", after := #[], guard := none } : Go.Oper)) (v := ?_) rfl (by kernel_rfl) (by kernel_rfl) (by kernel_rfl) (fun _ _ _ h => h) (Or.inl ⟨by rfl, ?_⟩) (by assumption) ?_
                      rotate_left
                      · intro w hSw; (try dsimp only at hSw); go_simp
                        try with_reducible rfl
                      try simp only [Act.put, List.setIfInBounds_toArray, List.set_cons_zero, List.set_cons_succ]
                      refine wpAnyH_take (i := 1) (oi := ({ dst := some 67, op := Go.Op.load 32 (Go.Operand.tmp 8), type := 32, pos := "law.go:53", after := #[], guard := none } : Go.Oper)) (v := ?_) rfl (by kernel_rfl) (by kernel_rfl) (by kernel_rfl) (fun _ _ _ h => h) (Or.inl ⟨by rfl, ?_⟩) (by assumption) ?_
                      rotate_left
                      · intro w hSw; (try dsimp only at hSw); go_simp
                        try with_reducible rfl
                      try simp only [Act.put, List.setIfInBounds_toArray, List.set_cons_zero, List.set_cons_succ]
                      refine wpAnyH_take (i := 2) (oi := ({ dst := some 68, op := Go.Op.move (Go.Operand.tmp 1), type := 22, pos := "law.go:53", after := #[], guard := none } : Go.Oper)) (v := ?_) rfl (by kernel_rfl) (by kernel_rfl) (by kernel_rfl) (fun _ _ _ h => h) (Or.inl ⟨by rfl, ?_⟩) (by assumption) ?_
                      rotate_left
                      · intro w hSw; (try dsimp only at hSw); go_simp
                        try with_reducible rfl
                      try simp only [Act.put, List.setIfInBounds_toArray, List.set_cons_zero, List.set_cons_succ]
                      refine wpAnyH_take (i := 3) (oi := ({ dst := some 69, op := Go.Op.move (Go.Operand.tmp 7), type := 3, pos := "law.go:53", after := #[], guard := none } : Go.Oper)) (v := ?_) rfl (by kernel_rfl) (by kernel_rfl) (by kernel_rfl) (fun _ _ _ h => h) (Or.inl ⟨by rfl, ?_⟩) (by assumption) ?_
                      rotate_left
                      · intro w hSw; (try dsimp only at hSw); go_simp
                        try with_reducible rfl
                      try simp only [Act.put, List.setIfInBounds_toArray, List.set_cons_zero, List.set_cons_succ]
                      refine wpAnyH_take (i := 4) (oi := ({ dst := some 70, op := Go.Op.indexAddr 22 (Go.Operand.tmp 68) (Go.Operand.tmp 69), type := 0, pos := "law.go:53", after := #[{ on := 2, ground := Go.Ground.data }, { on := 3, ground := Go.Ground.data }], guard := none } : Go.Oper)) (v := ?_) rfl (by kernel_rfl) (by kernel_rfl) (by kernel_rfl) (fun _ _ _ h => h) (Or.inl ⟨by rfl, ?_⟩) (by assumption) ?_
                      rotate_left
                      · intro w hSw; (try dsimp only at hSw); go_simp
                        try with_reducible rfl
                      try simp only [Act.put, List.setIfInBounds_toArray, List.set_cons_zero, List.set_cons_succ]
                      refine wpAnyH_take (i := 5) (oi := ({ dst := some 71, op := Go.Op.fieldAddr 34 (Go.Operand.tmp 70) 2, type := 0, pos := "law.go:53", after := #[{ on := 4, ground := Go.Ground.data }], guard := none } : Go.Oper)) (v := ?_) rfl (by kernel_rfl) (by kernel_rfl) (by kernel_rfl) (fun _ _ _ h => h) (Or.inl ⟨by rfl, ?_⟩) (by assumption) ?_
                      rotate_left
                      · intro w hSw; (try dsimp only at hSw); go_simp
                        try with_reducible rfl
                      try simp only [Act.put, List.setIfInBounds_toArray, List.set_cons_zero, List.set_cons_succ]
                      refine wpAnyH_take (i := 6) (oi := ({ dst := some 72, op := Go.Op.load 3 (Go.Operand.tmp 71), type := 3, pos := "law.go:53", after := #[{ on := 5, ground := Go.Ground.data }], guard := none } : Go.Oper)) (v := ?_) rfl (by kernel_rfl) (by kernel_rfl) (by kernel_rfl) (fun _ _ _ h => h) (Or.inl ⟨by rfl, ?_⟩) (by assumption) ?_
                      rotate_left
                      · intro w hSw; (try dsimp only at hSw); go_simp
                        try with_reducible rfl
                      try simp only [Act.put, List.setIfInBounds_toArray, List.set_cons_zero, List.set_cons_succ]
                      refine wpAnyH_ready (rs := [7, 11]) (by kernel_rfl) (by simp) ?_
                      refine AllReadyH.cons (o := ({ dst := some 73, op := Go.Op.call { callee := Go.Callee.value (Go.Operand.func 15), args := #[Go.Operand.tmp 66, Go.Operand.tmp 67, Go.Operand.tmp 72], argTypes := #[26, 32, 3] }, type := 38, pos := "law.go:53", after := #[{ on := 0, ground := Go.Ground.data }, { on := 1, ground := Go.Ground.data }, { on := 6, ground := Go.Ground.data }], guard := none } : Go.Oper)) rfl (fun K hK => ?_) ?_
                      · go_simp
                        (go_at_call 15; refine Calls.mono (bo_rput (HA5.out.gn (by with_reducible (repeat (first | exact Gn.refl _ | refine Gn.gr ?_ _ | refine Gn.alloc ?_ _ | refine Gn.drew ?_)))) hes t x) ?_; rintro _ w2 ⟨rfl, h1, h2⟩; rw [HLT.out, HFB.out]; simp only [Tup.val, Tup.cs]; have HXn : Hid (Bx w2 N t) := (HX5.out.kept (Kp.of_gn (fun _ => False) (by with_reducible (repeat (first | exact Gn.refl _ | refine Gn.gr ?_ _ | refine Gn.alloc ?_ _ | refine Gn.drew ?_)))) (fun e => e)).kept h2 (fun e => by omega); have e10 := h2.cell (gn_cell (by with_reducible (repeat (first | exact Gn.refl _ | refine Gn.gr ?_ _ | refine Gn.alloc ?_ _ | refine Gn.drew ?_))) d10) (fun e => by omega); clear b0 b1 b2 b3 b4 b5 b6 b7 b8; obtain ⟨b0, b1, b2, b3, b4, b5, b6, b7, b8⟩ := HXn.out.cells; have HMn : Hid (Bx w2 M lt) := (HM5.out.kept (Kp.of_gn (fun _ => False) (by with_reducible (repeat (first | exact Gn.refl _ | refine Gn.gr ?_ _ | refine Gn.alloc ?_ _ | refine Gn.drew ?_)))) (fun e => e)).kept h2 (fun e => hMx e); have HA2 := hidIt h1; have HK2 := hidIt h2; clear h1 h2)
                        refine hK.out _ _ ?_ (fun hHeld => ?_)
                        · first | go_keep | (go_split_ands <;> assumption)
                        clear hK K
                        try simp only [Act.put, List.setIfInBounds_toArray, List.set_cons_zero, List.set_cons_succ]
                        refine wpAnyH_take (i := 8) (oi := ({ dst := some 65, op := Go.Op.move (Go.Operand.tmp 73), type := 38, pos := "law.go:53", after := #[{ on := 7, ground := Go.Ground.data }], guard := none } : Go.Oper)) (v := ?_) rfl (by kernel_rfl) (by kernel_rfl) (by kernel_rfl) (fun _ _ _ h => h) (Or.inl ⟨by rfl, ?_⟩) (by assumption) ?_
                        rotate_left
                        · intro w hSw; (try dsimp only at hSw); go_simp
                          try with_reducible rfl
                        try simp only [Act.put, List.setIfInBounds_toArray, List.set_cons_zero, List.set_cons_succ]
                        refine wpAnyH_take (i := 9) (oi := ({ dst := some 74, op := Go.Op.extract (Go.Operand.tmp 65) 0, type := 32, pos := "law.go:53", after := #[{ on := 8, ground := Go.Ground.data }], guard := none } : Go.Oper)) (v := ?_) rfl (by kernel_rfl) (by kernel_rfl) (by kernel_rfl) (fun _ _ _ h => h) (Or.inl ⟨by rfl, ?_⟩) (by assumption) ?_
                        rotate_left
                        · intro w hSw; (try dsimp only at hSw); go_simp
                          try with_reducible rfl
                        try simp only [Act.put, List.setIfInBounds_toArray, List.set_cons_zero, List.set_cons_succ]
                        refine wpAnyH_take (i := 10) (oi := ({ dst := some 75, op := Go.Op.extract (Go.Operand.tmp 65) 1, type := 4, pos := "law.go:53", after := #[{ on := 8, ground := Go.Ground.data }, { on := 12, ground := Go.Ground.gcOnly Go.Departure.lateStores }], guard := none } : Go.Oper)) (v := ?_) rfl (by kernel_rfl) (by kernel_rfl) (by kernel_rfl) (fun _ _ _ h => h) (Or.inl ⟨by rfl, ?_⟩) (by assumption) ?_
                        rotate_left
                        · intro w hSw; (try dsimp only at hSw); go_simp
                          try with_reducible rfl
                        try simp only [Act.put, List.setIfInBounds_toArray, List.set_cons_zero, List.set_cons_succ]
                        refine wpAnyH_ready (rs := [11]) (by kernel_rfl) (by simp) ?_
                        refine AllReadyH.cons (o := ({ dst := some 19, op := Go.Op.alloc 32, type := 0, pos := "law.go:53", after := #[], guard := none } : Go.Oper)) rfl (fun K hK => ?_) ?_
                        · go_simp
                          refine hK.out _ _ ?_ (fun hHeld => ?_)
                          · first | go_keep | (go_split_ands <;> assumption)
                          clear hK K
                          try simp only [Act.put, List.setIfInBounds_toArray, List.set_cons_zero, List.set_cons_succ]
                          refine wpAnyH_ready (rs := [12]) (by kernel_rfl) (by simp) ?_
                          refine AllReadyH.cons (o := ({ dst := none, op := Go.Op.store 32 (Go.Operand.tmp 19) (Go.Operand.tmp 74), type := 0, pos := "law.go:53", after := #[{ on := 11, ground := Go.Ground.data }, { on := 9, ground := Go.Ground.data }, { on := 7, ground := Go.Ground.chain }, { on := 0, ground := Go.Ground.phase }, { on := 1, ground := Go.Ground.phase }, { on := 2, ground := Go.Ground.phase }, { on := 3, ground := Go.Ground.phase }, { on := 4, ground := Go.Ground.phase }, { on := 5, ground := Go.Ground.phase }, { on := 6, ground := Go.Ground.phase }, { on := 7, ground := Go.Ground.phase }, { on := 8, ground := Go.Ground.phase }, { on := 9, ground := Go.Ground.phase }, { on := 10, ground := Go.Ground.textOnly Go.Departure.lateStores }, { on := 11, ground := Go.Ground.phase }], guard := none } : Go.Oper)) rfl (fun K hK => ?_) ?_
                          · go_simp
                            refine hK.out _ _ ?_ (fun hHeld => ?_)
                            · first | go_keep | (go_split_ands <;> assumption)
                            clear hK K
                            try simp only [Act.put, List.setIfInBounds_toArray, List.set_cons_zero, List.set_cons_succ]
                            refine wpAnyH_take (i := 13) (oi := ({ dst := some 20, op := Go.Op.assign (Go.Operand.tmp 75), type := 4, pos := "law.go:53", after := #[{ on := 10, ground := Go.Ground.data }, { on := 12, ground := Go.Ground.chain }, { on := 0, ground := Go.Ground.phase }, { on := 1, ground := Go.Ground.phase }, { on := 2, ground := Go.Ground.phase }, { on := 3, ground := Go.Ground.phase }, { on := 4, ground := Go.Ground.phase }, { on := 5, ground := Go.Ground.phase }, { on := 6, ground := Go.Ground.phase }, { on := 7, ground := Go.Ground.phase }, { on := 8, ground := Go.Ground.phase }, { on := 9, ground := Go.Ground.phase }, { on := 10, ground := Go.Ground.phase }, { on := 11, ground := Go.Ground.phase }, { on := 12, ground := Go.Ground.phase }], guard := none } : Go.Oper)) (v := ?_) rfl (by kernel_rfl) (by kernel_rfl) (by kernel_rfl) (fun _ _ _ h => h) (Or.inl ⟨by rfl, ?_⟩) (by assumption) ?_
                            rotate_left
                            · intro w hSw; (try dsimp only at hSw); go_simp
                              try with_reducible rfl
                            try simp only [Act.put, List.setIfInBounds_toArray, List.set_cons_zero, List.set_cons_succ]
                            refine wpAnyH_done (by kernel_rfl) ?_ _
                            refine NoPanic.normal ?_
                            go_wp2_with (fail)
                            go_meet
                            case rel =>
                              exact ⟨w2.heap.size, rfl, rfl, Bx.new w2 lt, Bx.kept HMn.out (Kp.of_gn (fun _ => False) ((Gn.refl w2).alloc _)) (fun e => e), (HA2.out.gn ((Gn.refl w2).alloc _)).sub (fun _ e => e.elim)⟩
                          exact AllReadyH.nil
                        exact AllReadyH.nil
                      refine AllReadyH.cons (o := ({ dst := some 19, op := Go.Op.alloc 32, type := 0, pos := "law.go:53", after := #[], guard := none } : Go.Oper)) rfl (fun K hK => ?_) ?_
                      · go_simp
                        refine hK.out _ _ ?_ (fun hHeld => ?_)
                        · first | go_keep | (go_split_ands <;> assumption)
                        clear hK K
                        try simp only [Act.put, List.setIfInBounds_toArray, List.set_cons_zero, List.set_cons_succ]
                        refine wpAnyH_ready (rs := [7]) (by kernel_rfl) (by simp) ?_
                        refine AllReadyH.cons (o := ({ dst := some 73, op := Go.Op.call { callee := Go.Callee.value (Go.Operand.func 15), args := #[Go.Operand.tmp 66, Go.Operand.tmp 67, Go.Operand.tmp 72], argTypes := #[26, 32, 3] }, type := 38, pos := "law.go:53", after := #[{ on := 0, ground := Go.Ground.data }, { on := 1, ground := Go.Ground.data }, { on := 6, ground := Go.Ground.data }], guard := none } : Go.Oper)) rfl (fun K hK => ?_) ?_
                        · go_simp
                          (go_at_call 15; refine Calls.mono (bo_rput (HA5.out.gn (by with_reducible (repeat (first | exact Gn.refl _ | refine Gn.gr ?_ _ | refine Gn.alloc ?_ _ | refine Gn.drew ?_)))) hes t x) ?_; rintro _ w2 ⟨rfl, h1, h2⟩; rw [HLT.out, HFB.out]; simp only [Tup.val, Tup.cs]; have HXn : Hid (Bx w2 N t) := (HX5.out.kept (Kp.of_gn (fun _ => False) (by with_reducible (repeat (first | exact Gn.refl _ | refine Gn.gr ?_ _ | refine Gn.alloc ?_ _ | refine Gn.drew ?_)))) (fun e => e)).kept h2 (fun e => by omega); have e10 := h2.cell (gn_cell (by with_reducible (repeat (first | exact Gn.refl _ | refine Gn.gr ?_ _ | refine Gn.alloc ?_ _ | refine Gn.drew ?_))) d10) (fun e => by omega); clear b0 b1 b2 b3 b4 b5 b6 b7 b8; obtain ⟨b0, b1, b2, b3, b4, b5, b6, b7, b8⟩ := HXn.out.cells; have HMn : Hid (Bx w2 M lt) := (HM5.out.kept (Kp.of_gn (fun _ => False) (by with_reducible (repeat (first | exact Gn.refl _ | refine Gn.gr ?_ _ | refine Gn.alloc ?_ _ | refine Gn.drew ?_)))) (fun e => e)).kept h2 (fun e => hMx e); have HZ : Hid (Bx w2 w5.heap.size T0) := h2.bx (fun e => by omega) (Bx.new w5 T0); have HA2 := hidIt h1; have HK2 := hidIt h2; clear h1 h2)
                          refine hK.out _ _ ?_ (fun hHeld => ?_)
                          · first | go_keep | (go_split_ands <;> assumption)
                          clear hK K
                          try simp only [Act.put, List.setIfInBounds_toArray, List.set_cons_zero, List.set_cons_succ]
                          refine wpAnyH_take (i := 8) (oi := ({ dst := some 65, op := Go.Op.move (Go.Operand.tmp 73), type := 38, pos := "law.go:53", after := #[{ on := 7, ground := Go.Ground.data }], guard := none } : Go.Oper)) (v := ?_) rfl (by kernel_rfl) (by kernel_rfl) (by kernel_rfl) (fun _ _ _ h => h) (Or.inl ⟨by rfl, ?_⟩) (by assumption) ?_
                          rotate_left
                          · intro w hSw; (try dsimp only at hSw); go_simp
                            try with_reducible rfl
                          try simp only [Act.put, List.setIfInBounds_toArray, List.set_cons_zero, List.set_cons_succ]
                          refine wpAnyH_take (i := 9) (oi := ({ dst := some 74, op := Go.Op.extract (Go.Operand.tmp 65) 0, type := 32, pos := "law.go:53", after := #[{ on := 8, ground := Go.Ground.data }], guard := none } : Go.Oper)) (v := ?_) rfl (by kernel_rfl) (by kernel_rfl) (by kernel_rfl) (fun _ _ _ h => h) (Or.inl ⟨by rfl, ?_⟩) (by assumption) ?_
                          rotate_left
                          · intro w hSw; (try dsimp only at hSw); go_simp
                            try with_reducible rfl
                          try simp only [Act.put, List.setIfInBounds_toArray, List.set_cons_zero, List.set_cons_succ]
                          refine wpAnyH_take (i := 10) (oi := ({ dst := some 75, op := Go.Op.extract (Go.Operand.tmp 65) 1, type := 4, pos := "law.go:53", after := #[{ on := 8, ground := Go.Ground.data }, { on := 12, ground := Go.Ground.gcOnly Go.Departure.lateStores }], guard := none } : Go.Oper)) (v := ?_) rfl (by kernel_rfl) (by kernel_rfl) (by kernel_rfl) (fun _ _ _ h => h) (Or.inl ⟨by rfl, ?_⟩) (by assumption) ?_
                          rotate_left
                          · intro w hSw; (try dsimp only at hSw); go_simp
                            try with_reducible rfl
                          try simp only [Act.put, List.setIfInBounds_toArray, List.set_cons_zero, List.set_cons_succ]
                          refine wpAnyH_ready (rs := [12]) (by kernel_rfl) (by simp) ?_
                          refine AllReadyH.cons (o := ({ dst := none, op := Go.Op.store 32 (Go.Operand.tmp 19) (Go.Operand.tmp 74), type := 0, pos := "law.go:53", after := #[{ on := 11, ground := Go.Ground.data }, { on := 9, ground := Go.Ground.data }, { on := 7, ground := Go.Ground.chain }, { on := 0, ground := Go.Ground.phase }, { on := 1, ground := Go.Ground.phase }, { on := 2, ground := Go.Ground.phase }, { on := 3, ground := Go.Ground.phase }, { on := 4, ground := Go.Ground.phase }, { on := 5, ground := Go.Ground.phase }, { on := 6, ground := Go.Ground.phase }, { on := 7, ground := Go.Ground.phase }, { on := 8, ground := Go.Ground.phase }, { on := 9, ground := Go.Ground.phase }, { on := 10, ground := Go.Ground.textOnly Go.Departure.lateStores }, { on := 11, ground := Go.Ground.phase }], guard := none } : Go.Oper)) rfl (fun K hK => ?_) ?_
                          · rw [if_pos (by rfl)]
                            refine wp_store_box (u := T0) rfl lt rfl rfl HZ.out ?_
                            intro w3 h3 h4
                            have HX3 : Hid (Bx w3 N t) := h4.bx (fun e => by omega) HXn.out
                            have HM3 : Hid (Bx w3 M lt) := h4.bx (fun e => by omega) HMn.out
                            replace e10 := h4.cell e10 (fun e => by omega)
                            clear b0 b1 b2 b3 b4 b5 b6 b7 b8
                            obtain ⟨b0, b1, b2, b3, b4, b5, b6, b7, b8⟩ := HX3.out.cells
                            have HZ3 : Hid _ := h3
                            have HK3 : Hid _ := h4
                            clear h3 h4
                            refine hK.out _ _ ?_ (fun hHeld => ?_)
                            · first | go_keep | (go_split_ands <;> assumption)
                            clear hK K
                            try simp only [Act.put, List.setIfInBounds_toArray, List.set_cons_zero, List.set_cons_succ]
                            refine wpAnyH_take (i := 13) (oi := ({ dst := some 20, op := Go.Op.assign (Go.Operand.tmp 75), type := 4, pos := "law.go:53", after := #[{ on := 10, ground := Go.Ground.data }, { on := 12, ground := Go.Ground.chain }, { on := 0, ground := Go.Ground.phase }, { on := 1, ground := Go.Ground.phase }, { on := 2, ground := Go.Ground.phase }, { on := 3, ground := Go.Ground.phase }, { on := 4, ground := Go.Ground.phase }, { on := 5, ground := Go.Ground.phase }, { on := 6, ground := Go.Ground.phase }, { on := 7, ground := Go.Ground.phase }, { on := 8, ground := Go.Ground.phase }, { on := 9, ground := Go.Ground.phase }, { on := 10, ground := Go.Ground.phase }, { on := 11, ground := Go.Ground.phase }, { on := 12, ground := Go.Ground.phase }], guard := none } : Go.Oper)) (v := ?_) rfl (by kernel_rfl) (by kernel_rfl) (by kernel_rfl) (fun _ _ _ h => h) (Or.inl ⟨by rfl, ?_⟩) (by assumption) ?_
                            rotate_left
                            · intro w hSw; (try dsimp only at hSw); go_simp
                              try with_reducible rfl
                            try simp only [Act.put, List.setIfInBounds_toArray, List.set_cons_zero, List.set_cons_succ]
                            refine wpAnyH_done (by kernel_rfl) ?_ _
                            refine NoPanic.normal ?_
                            go_wp2_with (fail)
                            go_meet
                            case rel =>
                              exact ⟨w5.heap.size, rfl, rfl, HZ3.out, HM3.out, (HA2.out.kp HK3.out (fun j e => ⟨.inr ⟨by omega, by subst e; simp⟩, by omega⟩)).sub (fun _ e => e.elim)⟩
                          exact AllReadyH.nil
                        exact AllReadyH.nil
                      exact AllReadyH.nil
                    case rest =>
                      obtain ⟨M2, rfl, rfl, hM2, hM, hB⟩ := hcut
                      obtain ⟨w6, rfl⟩ : ∃ w6 : World, w6 = wc := ⟨_, rfl⟩
                      have h9 := pE_1 n t x es p 0
                      rw [HE2.out] at h9
                      rw [← h9.2.2] at hB
                      have HA6 : Hid (Bo w w6 mb xb n es2 (prs es2) (k + 1 + 1) (fun _ => False)) := hB
                      have hl1 : M < w6.heap.size := lt_of_block hM
                      have hl2 : M2 < w6.heap.size := lt_of_block hM2
                      clear b0 b1 b2 b3 b4 b5 b6 b7 b8 d10 HA5 h9 hB HX5 HM5 HE2
                      obtain ⟨y0, y1, y2, y3, y4, y5, y6, y7, y8⟩ := hM.cells
                      obtain ⟨z0, z1, z2, z3, z4, z5, z6, z7, z8⟩ := hM2.cells
                      have hneq := fun w => neq_tup w lt
                      simp only [Tup.val, Tup.cs] at hneq
                      clear hM hM2
                      go_wp2_with (fail)
                      go_meet
                      case rel => exact ⟨es2, HA6.out⟩

          case rest =>
            obtain ⟨es2, hBz⟩ := hcut
            obtain ⟨wz, rfl⟩ : ∃ wz : World, wz = wc := ⟨_, rfl⟩
            have HBz : Hid (Bo w wz mb xb n es2 (prs es2) (k + 1 + 1) (fun _ => False)) := hBz
            clear hBz HA1 HX1 HG1 d0 d10 hN1 hb1 hNb hNx hbw1 hNw1 hw1
            obtain ⟨oz, cz, z1, hRz⟩ := HBz.out.cells
            have hpz : (prs es2).length = es2.length := by simp [prs]
            rw [hpz] at z1 hRz
            have HRz : Hid (RR wz 0 (.slice oz es2.length cz) (prs es2)) := hRz
            have hxz := HBz.out.xlt.2
            have hKz : k + 1 + 1 ≤ 900 := by omega
            have hlz : es2.length ≤ 900 := by have := HBz.out.len; omega
            clear hpz hRz
            go_wp2_with (fail)
            refine wp_region_z 99 18 (by kernel_rfl) rfl ?_
            refine wpMix_pick 0 (by kernel_rfl) rfl (by kernel_rfl) (by with_reducible (repeat (first | exact Gn.refl _ | refine Gn.gr ?_ _ | refine Gn.alloc ?_ _ | refine Gn.drew ?_))) (by kernel_rfl) (fun K hK => ?_); go_simp; first | (refine hK _ ?_; clear hK K) | (apply Exists.intro; refine ⟨fun _ => ?_, hK _ ?_⟩; first | (fail); clear hK K)
            refine wpMix_pick 1 (by kernel_rfl) rfl (by kernel_rfl) (by with_reducible (repeat (first | exact Gn.refl _ | refine Gn.gr ?_ _ | refine Gn.alloc ?_ _ | refine Gn.drew ?_))) (by kernel_rfl) (fun K hK => ?_); go_simp; first | (refine hK _ ?_; clear hK K) | (apply Exists.intro; refine ⟨fun _ => ?_, hK _ ?_⟩; first | (go_at_call 16; exact Calls.in_qg_same (bo_len (HBz.out.gn ((Gn.refl _).gr _)))); clear hK K)
            refine wpMix_pick 2 (by kernel_rfl) rfl (by kernel_rfl) (by with_reducible (repeat (first | exact Gn.refl _ | refine Gn.gr ?_ _ | refine Gn.alloc ?_ _ | refine Gn.drew ?_))) (by kernel_rfl) (fun K hK => ?_); go_simp; first | (refine hK _ ?_; clear hK K) | (apply Exists.intro; refine ⟨fun _ => ?_, hK _ ?_⟩; first | (fail); clear hK K)
            refine wpMix_pick 3 (by kernel_rfl) rfl (by kernel_rfl) (by with_reducible (repeat (first | exact Gn.refl _ | refine Gn.gr ?_ _ | refine Gn.alloc ?_ _ | refine Gn.drew ?_))) (by kernel_rfl) (fun K hK => ?_); go_simp; first | (refine hK _ ?_; clear hK K) | (apply Exists.intro; refine ⟨fun _ => ?_, hK _ ?_⟩; first | (fail); clear hK K)
            refine wpMix_pick 4 (by kernel_rfl) rfl (by kernel_rfl) (by with_reducible (repeat (first | exact Gn.refl _ | refine Gn.gr ?_ _ | refine Gn.alloc ?_ _ | refine Gn.drew ?_))) (by kernel_rfl) (fun K hK => ?_); go_simp; first | (refine hK _ ?_; clear hK K) | (apply Exists.intro; refine ⟨fun _ => ?_, hK _ ?_⟩; first | (fail); clear hK K)
            refine wpMix_pick 5 (by kernel_rfl) rfl (by kernel_rfl) (by with_reducible (repeat (first | exact Gn.refl _ | refine Gn.gr ?_ _ | refine Gn.alloc ?_ _ | refine Gn.drew ?_))) (by kernel_rfl) (fun K hK => ?_); go_simp; first | (refine hK _ ?_; clear hK K) | (apply Exists.intro; refine ⟨fun _ => ?_, hK _ ?_⟩; first | (fail); clear hK K)
            refine wpMix_pick 6 (by kernel_rfl) rfl (by kernel_rfl) (by with_reducible (repeat (first | exact Gn.refl _ | refine Gn.gr ?_ _ | refine Gn.alloc ?_ _ | refine Gn.drew ?_))) (by kernel_rfl) (fun K hK => ?_); go_simp; first | (refine hK _ ?_; clear hK K) | (apply Exists.intro; refine ⟨fun _ => ?_, hK _ ?_⟩; first | (fail); clear hK K)
            refine wpMix_pick 7 (by kernel_rfl) rfl (by kernel_rfl) (by with_reducible (repeat (first | exact Gn.refl _ | refine Gn.gr ?_ _ | refine Gn.alloc ?_ _ | refine Gn.drew ?_))) (by kernel_rfl) (fun K hK => ?_); go_simp; first | (refine hK _ ?_; clear hK K) | (apply Exists.intro; refine ⟨fun _ => ?_, hK _ ?_⟩; first | (fail); clear hK K)
            refine wpMix_pick 8 (by kernel_rfl) rfl (by kernel_rfl) (by with_reducible (repeat (first | exact Gn.refl _ | refine Gn.gr ?_ _ | refine Gn.alloc ?_ _ | refine Gn.drew ?_))) (by kernel_rfl) (fun K hK => ?_); go_simp; first | (refine hK _ ?_; clear hK K) | (apply Exists.intro; refine ⟨fun _ => ?_, hK _ ?_⟩; first | (fail); clear hK K)
            refine wpMix_pick 9 (by kernel_rfl) rfl (by kernel_rfl) (by with_reducible (repeat (first | exact Gn.refl _ | refine Gn.gr ?_ _ | refine Gn.alloc ?_ _ | refine Gn.drew ?_))) (by kernel_rfl) (fun K hK => ?_); go_simp; first | (refine hK _ ?_; clear hK K) | (apply Exists.intro; refine ⟨fun _ => ?_, hK _ ?_⟩; first | (fail); clear hK K)
            refine wpMix_pick 11 (by kernel_rfl) rfl (by kernel_rfl) (by with_reducible (repeat (first | exact Gn.refl _ | refine Gn.gr ?_ _ | refine Gn.alloc ?_ _ | refine Gn.drew ?_))) (by kernel_rfl) (fun K hK => ?_); go_simp; first | (refine hK _ ?_; clear hK K) | (apply Exists.intro; refine ⟨fun _ => ?_, hK _ ?_⟩; first | (fail); clear hK K)
            refine wpMix_pick 12 (by kernel_rfl) rfl (by kernel_rfl) (by with_reducible (repeat (first | exact Gn.refl _ | refine Gn.gr ?_ _ | refine Gn.alloc ?_ _ | refine Gn.drew ?_))) (by kernel_rfl) (fun K hK => ?_); go_simp; first | (refine hK _ ?_; clear hK K) | (apply Exists.intro; refine ⟨fun _ => ?_, hK _ ?_⟩; first | (fail); clear hK K)
            refine wpMix_pick 13 (by kernel_rfl) rfl (by kernel_rfl) (by with_reducible (repeat (first | exact Gn.refl _ | refine Gn.gr ?_ _ | refine Gn.alloc ?_ _ | refine Gn.drew ?_))) (by kernel_rfl) (fun K hK => ?_); go_simp; first | (refine hK _ ?_; clear hK K) | (apply Exists.intro; refine ⟨fun _ => ?_, hK _ ?_⟩; first | (fail); clear hK K)
            refine wpMix_pick 14 (by kernel_rfl) rfl (by kernel_rfl) (by with_reducible (repeat (first | exact Gn.refl _ | refine Gn.gr ?_ _ | refine Gn.alloc ?_ _ | refine Gn.drew ?_))) (by kernel_rfl) (fun K hK => ?_); go_simp; first | (refine hK _ ?_; clear hK K) | (apply Exists.intro; refine ⟨fun _ => ?_, hK _ ?_⟩; first | (fail); clear hK K)
            refine wpMix_one (i := 10) (by kernel_rfl) rfl ?_
            intro p10
            go_wp2_with (go_at_call 18; refine Calls.mono (bo_list (HBz.out.gn ((Gn.refl _).gr _)) hKz) ?_; rintro _ wl ⟨vl, rfl, h1, h2⟩; have HTl : Hid (TR wl (wz.gr p10).heap.size vl (es2.map (·.t))) := h1; have HGl : Hid (Gn wz wl) := ((Gn.refl _).gr _).trans h2; clear h1 h2)
            refine ⟨HGl.out, ?_⟩
            refine wpMix_one (i := 15) (by kernel_rfl) rfl ?_
            intro p15
            go_wp2_with (go_at_call 17; refine Calls.mono (bo_same (HTl.out.gn ((Gn.refl _).gr _)) (HRz.out.gn (HGl.out.gr _)) hlz) ?_; rintro _ ws ⟨rfl, h2⟩; have HGs : Hid (Gn wz ws) := (HGl.out.gr _).trans h2; clear h2)
            refine ⟨HGs.out, ?_⟩
            refine wpMix_one (i := 16) (by kernel_rfl) rfl ?_
            intro p16
            go_wp2
            refine ⟨HGs.out.gr _, ?_⟩
            refine wpMix_one (i := 17) (by kernel_rfl) rfl ?_
            intro p17
            go_wp2
            refine ⟨HGs.out.gr _, ?_⟩
            refine wpMix_done (by kernel_rfl) ?_
            intro pz
            go_wp2
            go_roundw
            case rel => exact ⟨k + 1, es2, by omega, by go_num, (HBz.out.gn (HGs.out.gr _)).sub (fun _ (e : False) => e.elim)⟩
            case measure => simp [intOf]; omega
        · obtain rfl : k = l.length := by omega
          go_wp2_with (go_at_call 5; refine Calls.mono (awake_any _) ?_; rintro _ wa ⟨rfl, h1⟩; have HGa : Hid (Gn wr wa) := h1; clear h1)
          go_ret
          exact ⟨rfl, HG.out.trans HGa.out⟩
    · go_enter Try.func3, Try.ntmps3
      have hr2 : room < 0 ∨ 1024 < room := by omega
      clear hr
      go_upto_region 7 with (first | (go_at_call 6; refine Calls.mono (new_bad _ room hr2) ?_; rintro _ _ ⟨rfl, rfl⟩) | (go_at_call 7; refine Calls.mono (rnew_bad _ room hr2) ?_; rintro _ _ ⟨rfl, rfl⟩))
      go_loopw [7] (fun i wr => i = .int .i64 0 ∧ w = wr) (fun i _ => 0)
      case atStart => exact ⟨rfl, rfl⟩
      case round =>
        obtain ⟨rfl, rfl⟩ := hrel
        by_cases h0 : 0 < l.length
        · have h0i : (0 : Int) < (l.length : Int) := by omega
          go_wp2_with (go_at_call 5; refine Calls.mono (awake_any _) ?_; rintro _ wa ⟨rfl, h1⟩; have HGa : Hid (Gn w wa) := h1; clear h1)
          go_ret
          exact ⟨rfl, HGa.out⟩
        · have h0i : ¬ (0 : Int) < (l.length : Int) := by omega
          go_wp2_with (go_at_call 5; refine Calls.mono (awake_any _) ?_; rintro _ wa ⟨rfl, h1⟩; have HGa : Hid (Gn w wa) := h1; clear h1)
          go_ret
          exact ⟨rfl, HGa.out⟩
  · have hg : (60 : Int) < (l.length : Int) := by omega
    go_enter Try.func3, Try.ntmps3
    go_wp2_with (go_at_call 5; refine Calls.mono (awake_any _) ?_; rintro _ w1 ⟨rfl, h1⟩; have HG1 : Hid (Gn w w1) := h1; clear h1)
    go_ret
    exact ⟨rfl, HG1.out⟩
end Go.Proofs.Ytdfhcjhhjjbpoaa
