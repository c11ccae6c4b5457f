/- out, first, given. -/
import Derived.Test.YtdfhcjhhjjbpoaaS52
namespace Go.Proofs.Ytdfhcjhhjjbpoaa
open Go.RowKit
theorem given_any (w : World) (mb r : Nat) (fz : Nat) (hm : w.cell? ⟨mb, 1, none⟩ = some (.map (some r))) :
    Calls Try.prog 21 #[.pointer (some ⟨mb, 0, none⟩)] w fun e w' => e = .returned (.bool true) ∧ w' = w := by
  have hq : ∀ w, (binOp .neq 49 (.map (some r)) (.map none)).run Try.prog w = .ok (.bool true) w := fun w => by kernel_rfl
  go_enter Try.func21, Try.ntmps21
  go_wp2
  go_ret
  exact ⟨rfl, rfl⟩
theorem out_any (w : World) (mb g n cap i : Nat) (tu : Nat → Tup) (nu : Nat → Int) (ah bk : Nat → Nat) (hm : w.cell? ⟨mb, 2, none⟩ = some (.slice (some ⟨g, 0, none⟩) n cap)) (hmb : mb < w.heap.size)
    (hL : Links w g n cap tu nu ah bk) (hne : mb ≠ g) (hi : i < n) (ha : ah i < n) (hb : bk i < n) (hn : n ≤ 1000) :
    Calls Try.prog 19 #[.pointer (some ⟨mb, 0, none⟩), .int .i64 i] w fun e w' => (∃ v, e = .returned v) ∧ Links w' g n cap tu nu (upd ah (bk i) (ah i)) (upd bk (ah i) (bk i)) ∧ Kp (fun k => k = g) w w' := by
  have c0 := hL.tup hi (j := 0) (by omega)
  have c1 := hL.tup hi (j := 1) (by omega)
  have c2 := hL.tup hi (j := 2) (by omega)
  have c3 := hL.tup hi (j := 3) (by omega)
  have c4 := hL.tup hi (j := 4) (by omega)
  have c5 := hL.tup hi (j := 5) (by omega)
  have c6 := hL.tup hi (j := 6) (by omega)
  have c7 := hL.tup hi (j := 7) (by omega)
  have c8 := hL.tup hi (j := 8) (by omega)
  have c9 := hL.num hi
  have c10 := hL.ahead hi
  have c11 := hL.back hi
  simp only [Nat.add_zero, Tup.cs] at c0 c1 c2 c3 c4 c5 c6 c7 c8
  simp at c0 c1 c2 c3 c4 c5 c6 c7 c8
  have hgl := hL.lt
  have hcp := hL.cap_le
  have f1 := hL.free (ah i * 12 + 11)
  have f2 := hL.free (bk i * 12 + 10)
  have r1 := hL.back ha
  have r2 := hL.ahead hb
  have HL : Hid (Links w g n cap tu nu ah bk) := hL
  clear hL
  go_enter Try.func19, Try.ntmps19
  go_wp2
  obtain ⟨ob, hob⟩ : ∃ ob, ob = Obj.cells #[Value.int IntKind.i64 (tu i).p, Value.bool (tu i).a, Value.int IntKind.u64 (tu i).b, Value.int IntKind.u64 (tu i).c, Value.bool (tu i).d, Value.int IntKind.u64 (tu i).e, Value.int IntKind.u64 (tu i).f, Value.int IntKind.i64 (tu i).s, Value.int IntKind.i64 (tu i).t, Value.int IntKind.i64 (nu i), Value.int IntKind.i64 ↑(ah i), Value.int IntKind.i64 ↑(bk i)] 56 := ⟨_, rfl⟩
  rw [← hob]
  have hg : Gn w (w.alloc ob) := (Gn.refl w).alloc ob
  have x10 : (w.alloc ob).cell? ⟨w.heap.size, 10, none⟩ = some (.int .i64 (ah i)) := by rw [hob]; unfold World.cell?; rw [heap_alloc_new]; rfl
  have x11 : (w.alloc ob).cell? ⟨w.heap.size, 11, none⟩ = some (.int .i64 (bk i)) := by rw [hob]; unfold World.cell?; rw [heap_alloc_new]; rfl
  replace hm := gn_cell hg hm
  replace r1 := gn_cell hg r1
  replace r2 := gn_cell hg r2
  have HL2 : Hid (Links (w.alloc ob) g n cap tu nu ah bk) := HL.out.kept (Kp.of_gn (fun _ => False) hg) (fun e => e)
  replace f1 := HL2.out.free (ah i * 12 + 11)
  replace f2 := HL2.out.free (bk i * 12 + 10)
  have hxs : w.heap.size ≠ g := by omega
  clear c0 c1 c2 c3 c4 c5 c6 c7 c8 c9 c10 c11 hob
  have HG : Hid _ := hg
  clear hg
  generalize w.alloc ob = W at *
  generalize w.heap.size = N at x10 x11 hxs ⊢
  clear hmb hgl
  go_big_region
  all_goals go_wp2
  all_goals go_end0
  exact ⟨⟨_, rfl⟩, (((HL2.out.set_bk (ah i) (bk i) ha).set_ah (bk i) (ah i) hb).kept (Kp.of_gn (fun _ => False) ((Gn.refl _).drew)) (fun e => e)), ((((Kp.of_gn (fun k => k = g) HG.out).set g _ _ rfl).set g _ _ rfl).gn ((Gn.refl _).drew))⟩
theorem first_any (w : World) (mb g n cap i : Nat) (tu : Nat → Tup) (nu : Nat → Int) (ah bk : Nat → Nat) (hm : w.cell? ⟨mb, 2, none⟩ = some (.slice (some ⟨g, 0, none⟩) n cap)) (hmb : mb < w.heap.size)
    (hL : Links w g n cap tu nu ah bk) (hne : mb ≠ g) (hi : i < n) (hb : bk 0 < n) (hn : n ≤ 1000) :
    Calls Try.prog 20 #[.pointer (some ⟨mb, 0, none⟩), .int .i64 i] w fun e w' => (∃ v, e = .returned v) ∧ Links w' g n cap tu nu (upd (upd ah i 0) (bk 0) i) (upd (upd bk i (bk 0)) 0 i) ∧ Kp (fun k => k = g) w w' := by
  have h0 : 0 < n := by omega
  have r0 := hL.back h0
  rw [Nat.zero_mul, Nat.zero_add] at r0
  have hcp := hL.cap_le
  have f1 := hL.free (i * 12 + 10)
  have f2 := hL.free (i * 12 + 11)
  have r1 := hL.ahead hi
  have r2 := hL.back hi
  have HL : Hid (Links w g n cap tu nu ah bk) := hL
  clear hL hmb
  go_enter Try.func20, Try.ntmps20
  go_wp2
  go_big_region
  go_wp2
  have HL2 : Hid (Links ((w.setCell ⟨g, i * 12 + 10, none⟩ (.int .i64 0)).setCell ⟨g, i * 12 + 11, none⟩ (.int .i64 (bk 0))).drew g n cap tu nu (upd ah i 0) (upd bk i (bk 0))) :=
    ((HL.out.set_ah i 0 hi).set_bk i (bk 0) hi).kept (Kp.of_gn (fun _ => False) ((Gn.refl _).drew)) (fun e => e)
  have HK : Hid (Kp (fun k => k = g) w ((w.setCell ⟨g, i * 12 + 10, none⟩ (.int .i64 0)).setCell ⟨g, i * 12 + 11, none⟩ (.int .i64 (bk 0))).drew) :=
    ((((Kp.refl (fun k => k = g) w).set g _ _ rfl).set g _ _ rfl).gn ((Gn.refl _).drew))
  replace hm := HK.out.cell hm hne
  clear HL r0 f1 f2 r1 r2
  generalize ((w.setCell ⟨g, i * 12 + 10, none⟩ (.int .i64 0)).setCell ⟨g, i * 12 + 11, none⟩ (.int .i64 (bk 0))).drew = W at *
  have f1 := HL2.out.free 11
  have f2 := HL2.out.free (bk 0 * 12 + 10)
  have r1 := HL2.out.back h0
  rw [Nat.zero_mul, Nat.zero_add] at r1
  have r2 := HL2.out.ahead hb
  go_big_region
  go_wp2
  go_end0
  have h2 := (HL2.out.set_bk 0 i h0).set_ah (bk 0) i hb
  rw [Nat.zero_mul, Nat.zero_add] at h2
  exact ⟨⟨_, rfl⟩, h2.kept (Kp.of_gn (fun _ => False) ((Gn.refl _).drew)) (fun e => e), (((HK.out.set g _ _ rfl).set g _ _ rfl).gn ((Gn.refl _).drew))⟩
end Go.Proofs.Ytdfhcjhhjjbpoaa
