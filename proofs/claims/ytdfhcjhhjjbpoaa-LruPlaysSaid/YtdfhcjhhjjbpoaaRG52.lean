/- The reference's memory: Get; same. -/
import Derived.Test.YtdfhcjhhjjbpoaaRP52
namespace Go.Proofs.Ytdfhcjhhjjbpoaa
open Go.RowKit

theorem rget_none (w : World) (xb : Nat) (P : Nat → Prop) (room : Int) (l : List Rw) (h : RM w xb P room l) (hl : l.length ≤ 900) (t : Tup) (hf : findR t l = none) :
    Calls Try.prog 9 #[.pointer (some ⟨xb, 0, none⟩), t.val] w fun e w' => e = .returned (.tuple #[.int .i64 0, .bool false]) ∧ Gn w w' := by
  have HG : Hid (Gn w (w.alloc (.cells t.cs 32))) := (Gn.refl w).alloc _
  have HB : Hid (Bx (w.alloc (.cells t.cs 32)) w.heap.size t) := Bx.new w t
  have HM : Hid (RM (w.alloc (.cells t.cs 32)) xb P room l) := h.gn HG.out
  have hl1 : l.length ≤ 1000 := by omega
  have HF : Hid (findR t l = none) := hf
  obtain ⟨b0, b1, b2, b3, b4, b5, b6, b7, b8⟩ := HB.out.cells
  clear h hf
  simp only [Tup.val, Tup.cs] at HG HM b0 b1 b2 b3 b4 b5 b6 b7 b8 ⊢
  go_enter Try.func9, Try.ntmps9
  go_wp2_with (go_at_call 11; refine Calls.mono (rpeek_any _ xb P room l HM.out hl1 t) ?_; rintro _ w2 ⟨rfl, h2⟩; rw [HF.out]; simp only [optN, Option.isSome_none]; have HG2 : Hid (Gn (w.alloc (.cells #[.int .i64 t.p, .bool t.a, .int .u64 t.b, .int .u64 t.c, .bool t.d, .int .u64 t.e, .int .u64 t.f, .int .i64 t.s, .int .i64 t.t] 32)) w2) := h2; clear h2)
  go_ret2
  exact ⟨rfl, HG.out.trans HG2.out⟩
theorem rget_some (w : World) (xb : Nat) (P : Nat → Prop) (room : Int) (l : List Rw) (h : RM w xb P room l) (hl : l.length ≤ 900) (t : Tup) (r : Rw) (hf : findR t l = some r) :
    Calls Try.prog 9 #[.pointer (some ⟨xb, 0, none⟩), t.val] w fun e w' => e = .returned (.tuple #[.int .i64 r.2, .bool true]) ∧ RM w' xb (fun k => w.heap.size ≤ k) room (putR room ((t, r.2) :: cutR t l)).2.2 ∧ Kp (fun k => k = xb) w w' := by
  have HG : Hid (Gn w (w.alloc (.cells t.cs 32))) := (Gn.refl w).alloc _
  have HB : Hid (Bx (w.alloc (.cells t.cs 32)) w.heap.size t) := Bx.new w t
  have HM : Hid (RM (w.alloc (.cells t.cs 32)) xb P room l) := h.gn HG.out
  have hl1 : l.length ≤ 1000 := by omega
  have HF : Hid (findR t l = some r) := hf
  have hxb := h.lt
  clear h hf
  simp only [Tup.val, Tup.cs] at HG HM HB ⊢
  go_enter Try.func9, Try.ntmps9
  obtain ⟨b0, b1, b2, b3, b4, b5, b6, b7, b8⟩ := HB.out.cells
  go_upto_region 2 with (go_at_call 11; refine Calls.mono (rpeek_any _ xb P room l HM.out hl1 t) ?_; rintro _ w2 ⟨rfl, h2⟩; rw [HF.out]; simp only [optN, Option.isSome_some]; have HG2 : Hid (Gn w w2) := HG.out.trans h2; have HM2 : Hid (RM w2 xb P room l) := HM.out.gn h2; have HB2 : Hid (Bx w2 w.heap.size t) := HB.out.kept (Kp.of_gn (fun _ => False) h2) (fun e => e); clear h2)
  clear b0 b1 b2 b3 b4 b5 b6 b7 b8
  obtain ⟨b0, b1, b2, b3, b4, b5, b6, b7, b8⟩ := HB2.out.cells
  go_wp2_with (go_at_call 15; refine Calls.mono (rput_any w2 xb P room l HM2.out hl t r.2) ?_; rintro _ w3 ⟨rfl, h2, h3⟩; have HM3 : Hid (RM w3 xb (fun k => w2.heap.size ≤ k) room (putR room ((t, r.2) :: cutR t l)).2.2) := h2; have HK3 : Hid (Kp (fun k => k = xb) w2 w3) := h3; clear h2 h3)
  go_ret2
  exact ⟨rfl, HM3.out.mono (fun k _ e => Nat.le_trans HG2.out.size e), (Kp.of_gn _ HG2.out).trans HK3.out⟩
theorem tl_map {l : List Rw} {k : Nat} (hk : k < l.length) : tl (l.map (·.1)) k = (rl l k).1 := by
  simp [tl, rl, hk]
theorem same_yes (w : World) (b : Nat) (v u : Value) (l : List Rw) (hv : TR w b v (l.map (·.1))) (hu : RR w 0 u l) (hl : l.length ≤ 1000) :
    Calls Try.prog 17 #[v, u] w fun e w' => e = .returned (.bool true) ∧ Gn w w' := by
  obtain ⟨o1, c1, rfl⟩ := hv.shape
  obtain ⟨o2, c2, rfl⟩ := hu.shape
  rw [List.length_map] at hv ⊢
  have HV : Hid (TR w b (.slice o1 l.length c1) (l.map (·.1))) := hv
  have HU : Hid (RR w 0 (.slice o2 l.length c2) l) := hu
  clear hv hu
  go_enter Try.func17, Try.ntmps17
  go_wp2
  go_loopw [5] (fun i wr => ∃ k : Nat, k ≤ l.length ∧ i = .int .i64 k ∧ Gn w wr) (fun i _ => l.length - (intOf i).toNat)
  case atStart => exact ⟨0, by omega, rfl, Gn.refl _⟩
  case round =>
    obtain ⟨k, hk, rfl, hg⟩ := hrel
    have HG : Hid (Gn w wr) := hg
    clear hg
    by_cases hkl : k < l.length
    · have hkm : k < (l.map (·.1)).length := by rw [List.length_map]; exact hkl
      obtain ⟨g8, cap8, he8, hg8, x0, x1, x2, x3, x4, x5, x6, x7, x8⟩ := (HV.out.gn HG.out).facts hkm
      rw [List.length_map] at he8
      cases he8
      rw [tl_map hkl] at x0 x1 x2 x3 x4 x5 x6 x7 x8
      obtain ⟨g9, cap9, he9, hg9, y0, y1, y2, y3, y4, y5, y6, y7, y8, y9⟩ := (HU.out.gn HG.out).facts hkl
      cases he9
      have hneq := fun w => neq_tup w (rl l k).1
      simp only [Tup.val, Tup.cs] at hneq
      have hki : (k : Int) < (l.length : Int) := by omega
      go_wp2
      refine wp_region_gr (by kernel_rfl) (by kernel_rfl) ?_
      repeat (go_big_quiet_step (fail))
      refine wpQuiet_nil ?_
      rintro _ ⟨q1, rfl⟩
      go_wp2
      go_roundw
      case rel => exact ⟨k + 1, by omega, by go_num, HG.out.gr _⟩
      case measure => simp [intOf]; omega
    · obtain rfl : k = l.length := by omega
      go_wp2
      go_ret
      exact ⟨rfl, HG.out⟩
end Go.Proofs.Ytdfhcjhhjjbpoaa
