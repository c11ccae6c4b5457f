/- A memory; Peek. -/
import Derived.Test.YtdfhcjhhjjbpoaaB52
namespace Go.Proofs.Ytdfhcjhhjjbpoaa
open Go.RowKit

/-- What the numbers of a memory say: ring, free places, entries. -/
structure Inv (n : Nat) (tu : Nat → Tup) (nu : Nat → Int) (ah bk : Nat → Nat) (es : List Ent) (fr : List Nat) : Prop where
  ring : chain bk ah 0 (es.map (·.p)) 0
  nd : (0 :: (es.map (·.p) ++ fr)).Nodup
  tn : (es.map (·.t)).Nodup
  lt : ∀ p ∈ es.map (·.p) ++ fr, p < n
  cells : ∀ e ∈ es, tu e.p = e.t ∧ nu e.p = e.n
  ok : ∀ e ∈ es, e.t.ok
  sz : n = es.length + fr.length + 1
theorem Inv.cut {n : Nat} {tu : Nat → Tup} {nu : Nat → Int} {ah bk : Nat → Nat} {xs ys : List Ent} {x : Ent} {fr : List Nat} (h : Inv n tu nu ah bk (xs ++ x :: ys) fr) : Inv n tu nu (upd ah (bk x.p) (ah x.p)) (upd bk (ah x.p) (bk x.p)) (xs ++ ys) (fr ++ [x.p]) := by
  obtain ⟨h1, h2, h3, h4, h5, h6, h7⟩ := h
  simp only [List.map_append, List.map_cons] at h1 h2 h3 h4 ⊢
  have hp : (0 :: (List.map (·.p) xs ++ List.map (·.p) ys ++ (fr ++ [x.p]))).Perm (0 :: (List.map (·.p) xs ++ x.p :: List.map (·.p) ys ++ fr)) := by
    refine List.Perm.cons _ ?_
    rw [List.append_assoc, List.append_assoc]
    refine List.Perm.append_left _ ?_
    rw [← List.append_assoc, List.cons_append]
    exact List.perm_append_singleton _ _
  have h2' := h2
  rw [List.nodup_cons] at h2'
  have h2a := (List.nodup_append.1 h2'.2).1
  refine ⟨?_, by rw [List.map_append]; exact hp.nodup_iff.2 h2, ?_, fun p hq => ?_, fun e he => h5 e (by simp only [List.mem_append, List.mem_cons] at he ⊢; exact he.elim .inl (fun h => .inr (.inr h))), fun e he => h6 e (by simp only [List.mem_append, List.mem_cons] at he ⊢; exact he.elim .inl (fun h => .inr (.inr h))), ?_⟩
  · rw [List.map_append]
    have h10 := chain_split.1 h1
    exact chain_out h10.1 h10.2 (by rw [List.nodup_cons]; exact ⟨fun hh => h2'.1 (List.mem_append_left _ hh), h2a⟩) (fun hh => h2'.1 (List.mem_append_left _ hh))
  · rw [List.map_append]; exact h3.sublist (List.Sublist.append_left (List.sublist_cons_self _ _) _)
  · rw [List.map_append] at hq
    exact h4 p (by
      have : p ∈ (0 :: (List.map (·.p) xs ++ List.map (·.p) ys ++ (fr ++ [x.p]))) := List.mem_cons_of_mem _ hq
      have h8 := hp.mem_iff.1 this
      rcases List.mem_cons.1 h8 with rfl | h9
      · exact absurd ((List.nodup_cons.1 (hp.nodup_iff.2 h2)).1) (fun hh => hh hq)
      · exact h9)
  · simp only [List.length_append, List.length_cons, List.length_nil] at h7 ⊢
    omega
def Mem (w : World) (mb : Nat) (A : Nat → Prop) (room : Int) (es : List Ent) (K : Nat) : Prop :=
  ∃ r g n cap fv fr tu nu ah bk, Mx w mb A room r g n cap fv fr ∧ Links w g n cap tu nu ah bk ∧ Mp w r (fun t => (findE t es).map (·.p)) es.length ∧ Inv n tu nu ah bk es fr ∧ n ≤ K
/-- A box of a tuple. -/
def Bx (w : World) (N : Nat) (t : Tup) : Prop := w.heap[N]? = some (.cells t.cs 32 (0, 0))
theorem Bx.kept {w w' : World} {N : Nat} {t : Tup} {S : Nat → Prop} (h : Bx w N t) (hk : Kp S w w') (hs : ¬ S N) : Bx w' N t := (hk.block N (lt_of_block h) hs).trans h
theorem Bx.new (w : World) (t : Tup) : Bx (w.alloc (.cells t.cs 32)) w.heap.size t := heap_alloc_new _ _
theorem Bx.cells {w : World} {N : Nat} {t : Tup} (h : Bx w N t) : w.cell? ⟨N, 0, none⟩ = some (.int .i64 t.p) ∧ w.cell? ⟨N, 1, none⟩ = some (.bool t.a) ∧ w.cell? ⟨N, 2, none⟩ = some (.int .u64 t.b) ∧ w.cell? ⟨N, 3, none⟩ = some (.int .u64 t.c) ∧ w.cell? ⟨N, 4, none⟩ = some (.bool t.d) ∧ w.cell? ⟨N, 5, none⟩ = some (.int .u64 t.e) ∧ w.cell? ⟨N, 6, none⟩ = some (.int .u64 t.f) ∧ w.cell? ⟨N, 7, none⟩ = some (.int .i64 t.s) ∧ w.cell? ⟨N, 8, none⟩ = some (.int .i64 t.t) := by
  unfold World.cell?
  rw [show w.heap[N]? = _ from h]
  exact ⟨rfl, rfl, rfl, rfl, rfl, rfl, rfl, rfl, rfl⟩
theorem Mp.kept0 {w w' : World} {b c : Nat} {f : Tup → Option Nat} (h : Mp w b f c) (hg : Gn w w') : Mp w' b f c := h.kept (Kp.of_gn (fun _ => False) hg) (fun e => e)
theorem peek_some (w : World) (mb : Nat) (A : Nat → Prop) (room : Int) (es : List Ent) (K : Nat) (h : Mem w mb A room es K) (hK : K ≤ 1000) (t : Tup) (ht : t.ok) (x : Ent) (hx : findE t es = some x) :
    Calls Try.prog 10 #[.pointer (some ⟨mb, 0, none⟩), t.val] w fun e w' => e = .returned (.tuple #[.int .i64 x.n, .bool true]) ∧ Gn w w' := by
  obtain ⟨r, g, n, cap, fv, fr, tu, nu, ah, bk, hM, hL, hP, hI, hn⟩ := h
  obtain ⟨xs, ys, rfl, rfl, _⟩ := findE_split hx hI.tn
  have hi : x.p < n := hI.lt _ (by simp)
  have hnx : nu x.p = x.n := (hI.cells x (by simp)).2
  have hcp := hL.cap_le
  have cn := hL.num hi
  rw [hnx] at cn
  have hgl := hL.lt
  have c1 := hM.c1
  have c2 := hM.c2
  have hmb := hM.lt
  have hB := Bx.new w x.t
  have HG : Gn w (w.alloc (.cells x.t.cs 32)) := (Gn.refl w).alloc _
  have hlook : ∀ p : Gr, (Instr.lookup 49 (.map (some r)) x.t.val true).run Try.prog ((w.alloc (.cells x.t.cs 32)).gr p) = .ok (.tuple #[.int .i64 (x.p : Int), .bool true]) ((w.alloc (.cells x.t.cs 32)).gr p) := fun p => by
    have := (hP.kept0 (HG.gr p)).look x.t ht
    simpa [hx] using this
  obtain ⟨b0, b1, b2, b3, b4, b5, b6, b7, b8⟩ := hB.cells
  simp only [Tup.val, Tup.cs] at hlook b0 b1 b2 b3 b4 b5 b6 b7 b8 HG ⊢
  clear hM hL hP hI hB hx
  go_enter Try.func10, Try.ntmps10
  go_wp2_with (go_at_call 21; refine Calls.mono (given_any _ mb r 0 (gn_cell HG c1)) ?_; rintro _ _ ⟨rfl, rfl⟩)
  refine wp_region_gr (by kernel_rfl) (by kernel_rfl) ?_
  repeat (go_big_quiet_step (fail))
  refine wpQuiet_nil ?_
  rintro _ ⟨q1, rfl⟩
  go_wp2
  go_ret2
  exact ⟨rfl, HG.gr _⟩
theorem peek_none (w : World) (mb : Nat) (A : Nat → Prop) (room : Int) (es : List Ent) (K : Nat) (h : Mem w mb A room es K) (t : Tup) (ht : t.ok) (hx : findE t es = none) :
    Calls Try.prog 10 #[.pointer (some ⟨mb, 0, none⟩), t.val] w fun e w' => e = .returned (.tuple #[.int .i64 0, .bool false]) ∧ Gn w w' := by
  obtain ⟨r, g, n, cap, fv, fr, tu, nu, ah, bk, hM, hL, hP, hI, hn⟩ := h
  have c1 := hM.c1
  have hmb := hM.lt
  have hB := Bx.new w t
  have HG : Gn w (w.alloc (.cells t.cs 32)) := (Gn.refl w).alloc _
  have hlook : ∀ p : Gr, (Instr.lookup 49 (.map (some r)) t.val true).run Try.prog ((w.alloc (.cells t.cs 32)).gr p) = .ok (.tuple #[.int .i64 0, .bool false]) ((w.alloc (.cells t.cs 32)).gr p) := fun p => by
    have := (hP.kept0 (HG.gr p)).look t ht
    simpa [hx] using this
  obtain ⟨b0, b1, b2, b3, b4, b5, b6, b7, b8⟩ := hB.cells
  simp only [Tup.val, Tup.cs] at hlook b0 b1 b2 b3 b4 b5 b6 b7 b8 HG ⊢
  clear hM hL hP hI hB hx
  go_enter Try.func10, Try.ntmps10
  go_wp2_with (go_at_call 21; refine Calls.mono (given_any _ mb r 0 (gn_cell HG c1)) ?_; rintro _ _ ⟨rfl, rfl⟩)
  refine wp_region_gr (by kernel_rfl) (by kernel_rfl) ?_
  repeat (go_big_quiet_step (fail))
  refine wpQuiet_nil ?_
  rintro _ ⟨q1, rfl⟩
  go_wp2
  go_ret2
  exact ⟨rfl, HG.gr _⟩
theorem cut_none (w : World) (mb : Nat) (A : Nat → Prop) (room : Int) (es : List Ent) (K : Nat) (h : Mem w mb A room es K) (t : Tup) (ht : t.ok) (hx : findE t es = none) :
    Calls Try.prog 12 #[.pointer (some ⟨mb, 0, none⟩), t.val] w fun e w' => e = .returned (.bool false) ∧ Gn w w' := by
  obtain ⟨r, g, n, cap, fv, fr, tu, nu, ah, bk, hM, hL, hP, hI, hn⟩ := h
  have c1 := hM.c1
  have hmb := hM.lt
  have hB := Bx.new w t
  have HG : Gn w (w.alloc (.cells t.cs 32)) := (Gn.refl w).alloc _
  have hlook : ∀ p : Gr, (Instr.lookup 49 (.map (some r)) t.val true).run Try.prog ((w.alloc (.cells t.cs 32)).gr p) = .ok (.tuple #[.int .i64 0, .bool false]) ((w.alloc (.cells t.cs 32)).gr p) := fun p => by
    have := (hP.kept0 (HG.gr p)).look t ht
    simpa [hx] using this
  obtain ⟨b0, b1, b2, b3, b4, b5, b6, b7, b8⟩ := hB.cells
  simp only [Tup.val, Tup.cs] at hlook b0 b1 b2 b3 b4 b5 b6 b7 b8 HG ⊢
  clear hM hL hP hI hB hx
  go_enter Try.func12, Try.ntmps12
  go_wp2_with (go_at_call 21; refine Calls.mono (given_any _ mb r 0 (gn_cell HG c1)) ?_; rintro _ _ ⟨rfl, rfl⟩)
  refine wp_region_gr (by kernel_rfl) (by kernel_rfl) ?_
  repeat (go_big_quiet_step (fail))
  refine wpQuiet_nil ?_
  rintro _ ⟨q1, rfl⟩
  go_wp2
  go_ret
  exact ⟨rfl, HG.gr _⟩
theorem len_mem (w : World) (mb : Nat) (A : Nat → Prop) (room : Int) (es : List Ent) (K : Nat) (h : Mem w mb A room es K) :
    Calls Try.prog 16 #[.pointer (some ⟨mb, 0, none⟩)] w fun e w' => e = .returned (.int .i64 es.length) ∧ w' = w := by
  obtain ⟨r, g, n, cap, fv, fr, tu, nu, ah, bk, hM, hL, hP, hI, hn⟩ := h
  have c1 := hM.c1
  have HP : Hid (Mp w r (fun t => (findE t es).map (·.p)) es.length) := hP
  clear hM hL hP hI
  go_enter Try.func16, Try.ntmps16
  go_wp2_with (first | (go_at_call 21; refine Calls.mono (given_any _ mb r 0 c1) ?_; rintro _ _ ⟨rfl, rfl⟩) | (at_len; refine wpList_map_len rfl _ rfl rfl HP.out ?_))
  go_ret
  exact ⟨rfl, rfl⟩
end Go.Proofs.Ytdfhcjhhjjbpoaa
