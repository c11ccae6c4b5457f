/- New; memories that nobody made; Get. -/
import Derived.Test.YtdfhcjhhjjbpoaaG52
namespace Go.Proofs.Ytdfhcjhhjjbpoaa
open Go.RowKit

theorem new_bad (w : World) (room : Int) (h : room < 0 ∨ 1024 < room) :
    Calls Try.prog 6 #[.int .i64 room] w fun e w' => e = .returned (.pointer none) ∧ w = w' := by
  go_enter Try.func6, Try.ntmps6
  by_cases h0 : room < 0
  · go_wp2
    go_ret
    exact ⟨rfl, rfl⟩
  · have h1 : 1024 < room := by omega
    have h2 : 0 ≤ room := by omega
    clear h h0
    go_wp2
    go_ret
    exact ⟨rfl, rfl⟩
theorem new_ok (w : World) (room : Int) (h0 : 0 ≤ room) (h1 : room ≤ 1024) :
    Calls Try.prog 6 #[.int .i64 room] w fun e w' => ∃ mb, e = .returned (.pointer (some ⟨mb, 0, none⟩)) ∧ Mem w' mb (fun k => w.heap.size ≤ k) room [] 1 ∧ Gn w w' := by
  have hmm := @run_makeMap Try.prog
  obtain ⟨i0, hi0, hz0, hz1, hz2⟩ := info_parts info56
  have hby : i0.bytes * 1 ≤ 281474976710656 := by rw [hz2]; omega
  have hml : 1 ≤ maxLen := by unfold maxLen; omega
  go_enter Try.func6, Try.ntmps6
  go_wp2_with (at_make; refine wpList_make_full _ rfl _ _ _ rfl 0 56 i0 (.agg Z12) 12 Try.underlying50 hi0 hz0 hz1 .i64 .i64 1 1 1 rfl rfl rfl rfl hby hml (Nat.zero_le _) ?_; intro w2 h1 h2; rw [size_alloc] at h1; have H1 : Hid (w2.ownsRow 0 56 12 (.slice (some ⟨w.heap.size + 1, 0, none⟩) 1 1) 1 (madeCells Z12 12).toList) := h1; have H2 : Hid ((w.alloc (.map #[] 0)).grownBy w2 none) := h2; clear h1 h2)
  go_ret
  have hk : Kp (fun _ => False) (w.alloc (.map #[] 0)) w2 := Kp.of_gb H2.out (fun k e => by cases e)
  have hg0 : Gn w (w2.alloc (.cells #[.int .i64 room, .map (some w.heap.size), .slice (some ⟨w.heap.size + 1, 0, none⟩) 1 1, .slice none 0 0] 53)) := (((Gn.refl w).alloc (.map #[] 0)).trans (hk.to_gn (fun k e => e.elim))).alloc _
  have hk2 : Kp (fun _ => False) w2 (w2.alloc (.cells #[.int .i64 room, .map (some w.heap.size), .slice (some ⟨w.heap.size + 1, 0, none⟩) 1 1, .slice none 0 0] 53)) := Kp.of_gn _ ((Gn.refl _).alloc _)
  have hgl : w.heap.size + 1 < w2.heap.size := (H1.out.lt _ rfl).2
  have hmd : (madeCells Z12 12).toList = Z12.toList := by kernel_rfl
  have H1' := H1.out
  rw [hmd] at H1'
  have hws := hg0.size
  rw [size_alloc] at hws
  have hP : Mp (w2.alloc (.cells #[.int .i64 room, .map (some w.heap.size), .slice (some ⟨w.heap.size + 1, 0, none⟩) 1 1, .slice none 0 0] 53)) w.heap.size (fun t => (findE t []).map (·.p)) 0 := ((Mp.made w).kept hk (fun e => e)).kept hk2 (fun e => e)
  refine ⟨w2.heap.size, rfl, ⟨w.heap.size, w.heap.size + 1, 1, 1, .slice none 0 0, [], fun _ => T0, fun _ => 0, fun _ => 0, fun _ => 0, ?_, ⟨Z12.toList, own_kp H1' hk2 (fun _ _ e => e), ?_⟩, hP, ?_, Nat.le_refl _⟩, hg0⟩
  · exact { blk := heap_alloc_new _ _, fre := World.ownsRow_nil _ _ _ _, rlt := hP.lt, n1 := by omega, n2 := by omega, n3 := by omega, f1 := (by intro e; cases e), f2 := (by intro e; cases e), f3 := (by intro e; cases e), a1 := by omega, a2 := Nat.le_refl _, a3 := by omega, a4 := fun k e => (by cases e) }
  · intro p hp
    obtain rfl : p = 0 := by omega
    refine ⟨fun j hj => ?_, rfl, rfl, rfl⟩
    match j, hj with
    | 0, _ => rfl
    | 1, _ => rfl
    | 2, _ => rfl
    | 3, _ => rfl
    | 4, _ => rfl
    | 5, _ => rfl
    | 6, _ => rfl
    | 7, _ => rfl
    | 8, _ => rfl
    | k + 9, h => omega
  · exact ⟨⟨rfl, rfl⟩, by simp, by simp, fun p hp => by simp at hp, fun e he => by simp at he, fun e he => by simp at he, rfl⟩
theorem nil_given (w : World) : Calls Try.prog 21 #[.pointer none] w fun e w' => e = .returned (.bool false) ∧ w = w' := by
  go_enter Try.func21, Try.ntmps21
  go_wp2
  go_ret
  exact ⟨rfl, rfl⟩
theorem plain_given (w : World) (mb : Nat) (hm : w.cell? ⟨mb, 1, none⟩ = some (.map none)) : Calls Try.prog 21 #[.pointer (some ⟨mb, 0, none⟩)] w fun e w' => e = .returned (.bool false) ∧ w = w' := by
  have hq : ∀ w, (binOp .neq 49 (.map none) (.map none)).run Try.prog w = .ok (.bool false) w := fun w => by kernel_rfl
  go_enter Try.func21, Try.ntmps21
  go_wp2
  go_ret
  exact ⟨rfl, rfl⟩
theorem nil_cut (w : World) (t : Tup) : Calls Try.prog 12 #[.pointer none, t.val] w fun e w' => e = .returned (.bool false) ∧ Gn w w' := by
  simp only [Tup.val, Tup.cs]
  go_enter Try.func12, Try.ntmps12
  go_wp2_with (go_at_call 21; refine Calls.mono (nil_given _) ?_; rintro _ _ ⟨rfl, rfl⟩)
  go_ret
  exact ⟨rfl, (Gn.refl _).alloc _⟩
theorem nil_put (w : World) (t : Tup) (x : Int) : Calls Try.prog 14 #[.pointer none, t.val, .int .i64 x] w fun e w' => e = .returned (.tuple #[T0.val, .bool false]) ∧ Gn w w' := by
  simp only [Tup.val, Tup.cs, T0]
  go_enter Try.func14, Try.ntmps14
  go_wp2_with (go_at_call 21; refine Calls.mono (nil_given _) ?_; rintro _ _ ⟨rfl, rfl⟩)
  have HR : Bx ((w.alloc (.cells t.cs 32)).alloc (.cells T0.cs 32)) (w.heap.size + 1) T0 := by
    have := Bx.new (w.alloc (.cells t.cs 32)) T0
    rw [size_alloc] at this
    exact this
  obtain ⟨b0, b1, b2, b3, b4, b5, b6, b7, b8⟩ := HR.cells
  simp only [Tup.cs, T0] at b0 b1 b2 b3 b4 b5 b6 b7 b8
  refine bodyPost_ret (by simp [results, Try.results14, go_sem, b0, b1, b2, b3, b4, b5, b6, b7, b8]) rfl ⟨rfl, ((Gn.refl _).alloc _).alloc _⟩
theorem nil_list (w : World) : Calls Try.prog 18 #[.pointer none] w fun e w' => e = .returned (.slice none 0 0) ∧ w = w' := by
  go_enter Try.func18, Try.ntmps18
  go_wp2_with (go_at_call 21; refine Calls.mono (nil_given _) ?_; rintro _ _ ⟨rfl, rfl⟩)
  go_ret
  exact ⟨rfl, rfl⟩
theorem plain_len (w : World) (mb : Nat) (hm : w.cell? ⟨mb, 1, none⟩ = some (.map none)) : Calls Try.prog 16 #[.pointer (some ⟨mb, 0, none⟩)] w fun e w' => e = .returned (.int .i64 0) ∧ w = w' := by
  go_enter Try.func16, Try.ntmps16
  go_wp2_with (go_at_call 21; refine Calls.mono (plain_given _ mb hm) ?_; rintro _ _ ⟨rfl, rfl⟩)
  go_ret
  exact ⟨rfl, rfl⟩
theorem plain_peek (w : World) (mb : Nat) (t : Tup) (hm : w.cell? ⟨mb, 1, none⟩ = some (.map none)) : Calls Try.prog 10 #[.pointer (some ⟨mb, 0, none⟩), t.val] w fun e w' => e = .returned (.tuple #[.int .i64 0, .bool false]) ∧ Gn w w' := by
  have hg : Gn w (w.alloc (.cells t.cs 32)) := (Gn.refl w).alloc _
  have hm2 := gn_cell hg hm
  simp only [Tup.val, Tup.cs] at hg hm2 ⊢
  go_enter Try.func10, Try.ntmps10
  go_wp2_with (go_at_call 21; refine Calls.mono (plain_given _ mb hm2) ?_; rintro _ _ ⟨rfl, rfl⟩)
  go_ret2
  exact ⟨rfl, hg⟩
theorem plain_get (w : World) (mb : Nat) (t : Tup) (hm : w.cell? ⟨mb, 1, none⟩ = some (.map none)) : Calls Try.prog 8 #[.pointer (some ⟨mb, 0, none⟩), t.val] w fun e w' => e = .returned (.tuple #[.int .i64 0, .bool false]) ∧ Gn w w' := by
  have hg : Gn w (w.alloc (.cells t.cs 32)) := (Gn.refl w).alloc _
  have hm2 := gn_cell hg hm
  have HB : Hid (Bx (w.alloc (.cells t.cs 32)) w.heap.size t) := Bx.new _ _
  obtain ⟨b0, b1, b2, b3, b4, b5, b6, b7, b8⟩ := HB.out.cells
  simp only [Tup.val, Tup.cs] at hg hm2 b0 b1 b2 b3 b4 b5 b6 b7 b8 ⊢
  go_enter Try.func8, Try.ntmps8
  go_wp2_with (go_at_call 10; refine Calls.mono (plain_peek _ mb t hm2) ?_; rintro _ w2 ⟨rfl, h2⟩; have HG2 : Hid (Gn _ w2) := hg.trans h2; clear h2)
  go_ret2
  exact ⟨rfl, HG2.out⟩
/-- An entry is moved ahead. -/
theorem Inv.move {n : Nat} {tu : Nat → Tup} {nu : Nat → Int} {ah bk : Nat → Nat} {es : List Ent} {fr : List Nat} {x : Ent} (h : Inv n tu nu ah bk es (fr ++ [x.p])) (ht : x.t.ok) (hn : findE x.t es = none) (hx : tu x.p = x.t ∧ nu x.p = x.n) :
    Inv n tu nu (upd (upd ah x.p 0) (bk 0) x.p) (upd (upd bk x.p (bk 0)) 0 x.p) (x :: es) fr := by
  have hlt : x.p < n := h.lt _ (by simp)
  have h0 : x.p ≠ 0 := by
    intro e
    have := (List.nodup_cons.1 h.nd).1
    exact this (by rw [← e]; simp)
  have h1 := h.put x.t x.n ht hn (tu3 := tu) (nu3 := nu) (ah3 := ah) (bk3 := bk) (n3 := n) (fr3 := fr) (i := x.p) (fun p _ => ⟨rfl, rfl, rfl, rfl⟩) hlt (.inl ⟨rfl, rfl⟩)
  have e1 : (fun p => if p = x.p then x.t else tu p) = tu := by funext p; by_cases e : p = x.p <;> simp [e, hx.1]
  have e2 : (fun p => if p = x.p then x.n else nu p) = nu := by funext p; by_cases e : p = x.p <;> simp [e, hx.2]
  have e3 : upd bk x.p 0 0 = bk 0 := upd_other (fun e => h0 e.symm)
  have e4 : upd (upd ah x.p 0) x.p 0 = upd ah x.p 0 := by funext p; unfold upd; by_cases e : p = x.p <;> simp [e]
  have e5 : upd (upd bk x.p 0) x.p (bk 0) = upd bk x.p (bk 0) := by funext p; unfold upd; by_cases e : p = x.p <;> simp [e]
  rw [e1, e2, e3, e4, e5] at h1
  exact h1
theorem get_none (w : World) (mb : Nat) (A : Nat → Prop) (room : Int) (es : List Ent) (K : Nat) (h : Mem w mb A room es K) (t : Tup) (ht : t.ok) (hx : findE t es = none) :
    Calls Try.prog 8 #[.pointer (some ⟨mb, 0, none⟩), t.val] w fun e w' => e = .returned (.tuple #[.int .i64 0, .bool false]) ∧ Gn w w' := by
  have HG : Gn w (w.alloc (.cells t.cs 32)) := (Gn.refl w).alloc _
  have HB : Hid (Bx (w.alloc (.cells t.cs 32)) w.heap.size t) := Bx.new _ _
  have HM : Hid (Mem (w.alloc (.cells t.cs 32)) mb A room es K) := h.grown HG
  obtain ⟨b0, b1, b2, b3, b4, b5, b6, b7, b8⟩ := HB.out.cells
  have HX : Hid (findE t es = none) := hx
  clear h hx
  simp only [Tup.val, Tup.cs] at HG b0 b1 b2 b3 b4 b5 b6 b7 b8 ⊢
  go_enter Try.func8, Try.ntmps8
  go_wp2_with (go_at_call 10; refine Calls.mono (peek_none _ mb A room es K HM.out t ht HX.out) ?_; rintro _ w2 ⟨rfl, h2⟩; have HG2 : Hid (Gn _ w2) := HG.trans h2; clear h2)
  go_ret2
  exact ⟨rfl, HG2.out⟩
theorem get_some (w : World) (mb : Nat) (A : Nat → Prop) (room : Int) (es : List Ent) (K : Nat) (h : Mem w mb A room es K) (hK : K ≤ 1000) (t : Tup) (ht : t.ok) (x : Ent) (hx : findE t es = some x) :
    Calls Try.prog 8 #[.pointer (some ⟨mb, 0, none⟩), t.val] w fun e w' => e = .returned (.tuple #[.int .i64 x.n, .bool true]) ∧ Mem w' mb A room (x :: cutE t es) K ∧ Kp A w w' := by
  have hM0 := h
  obtain ⟨r, g, n, cap, fv, fr, tu, nu, ah, bk, hM, hL, hP, hI, hn⟩ := h
  obtain ⟨xs, ys, rfl, rfl, hcut⟩ := findE_split hx hI.tn
  have hem : x ∈ xs ++ x :: ys := by simp
  have hi : x.p < n := hI.lt _ (by simp)
  have ha : ah x.p < n := by
    have h1 := hI.ring
    rw [List.map_append, List.map_cons] at h1
    rcases List.mem_cons.1 (chain_ah (chain_split.1 h1).1) with e | e
    · omega
    · exact hI.lt _ (by rw [List.map_append]; exact List.mem_append_left _ (List.mem_append_left _ e))
  have hb : bk x.p < n := by
    have h1 := hI.ring
    rw [List.map_append, List.map_cons] at h1
    rcases List.mem_append.1 (chain_bk (chain_split.1 h1).2) with e | e
    · exact hI.lt _ (by rw [List.map_append, List.map_cons]; exact List.mem_append_left _ (List.mem_append_right _ (List.mem_cons_of_mem _ e)))
    · have : bk x.p = 0 := by simpa using e
      omega
  have hI1 := hI.cut
  have hb1 : upd bk (ah x.p) (bk x.p) 0 < n := by
    have h9 := chain_bk hI1.ring
    rcases List.mem_append.1 h9 with e | e
    · exact hI1.lt _ (List.mem_append_left _ e)
    · have : upd bk (ah x.p) (bk x.p) 0 = 0 := by simpa using e
      omega
  have hI2 := hI1.move ht (by rw [← hcut]; exact findE_cut_same _ _) (hI.cells x hem)
  have HG : Gn w (w.alloc (.cells x.t.cs 32)) := (Gn.refl w).alloc _
  have HB : Hid (Bx (w.alloc (.cells x.t.cs 32)) w.heap.size x.t) := Bx.new _ _
  have HM : Hid (Mem (w.alloc (.cells x.t.cs 32)) mb A room (xs ++ x :: ys) K) := hM0.grown HG
  have HX : Hid (findE x.t (xs ++ x :: ys) = some x) := hx
  have HXM : Hid (Mx w mb A room r g n cap fv fr) := hM
  have HL : Hid (Links w g n cap tu nu ah bk) := hL
  have HP : Hid (Mp w r (fun u => (findE u (xs ++ x :: ys)).map (·.p)) (xs ++ x :: ys).length) := hP
  have HI : Hid (Inv n tu nu (upd (upd (upd ah (bk x.p) (ah x.p)) x.p 0) (upd bk (ah x.p) (bk x.p) 0) x.p) (upd (upd (upd bk (ah x.p) (bk x.p)) x.p (upd bk (ah x.p) (bk x.p) 0)) 0 x.p) (x :: (xs ++ ys)) fr) := hI2
  have HC : Hid (cutE x.t (xs ++ x :: ys) = xs ++ ys) := hcut
  have hmg := hM.n2
  have hmb := hM.lt
  have hgl := hL.lt
  have c1 := hM.c1
  have c2 := hM.c2
  have hn1 : n ≤ 1000 := by omega
  obtain ⟨b0, b1, b2, b3, b4, b5, b6, b7, b8⟩ := HB.out.cells
  clear hM0 hM hL hP hI hI1 hI2 hx hcut hem
  simp only [Tup.val, Tup.cs] at HG b0 b1 b2 b3 b4 b5 b6 b7 b8 ⊢
  go_enter Try.func8, Try.ntmps8
  go_wp2_with (go_at_call 10; refine Calls.mono (peek_some _ mb A room _ K HM.out hK x.t ht x HX.out) ?_; rintro _ w2 ⟨rfl, h2⟩; have HG2 : Hid (Gn w w2) := HG.trans h2; have HB2 : Hid (Bx w2 w.heap.size x.t) := HB.out.kept (Kp.of_gn (fun _ => False) h2) (fun e => e); clear h2)
  replace c1 := gn_cell HG2.out c1
  replace c2 := gn_cell HG2.out c2
  have hs2 := HG2.out.size
  have hlook : ∀ p : Gr, (Instr.lookup 49 (.map (some r)) x.t.val false).run Try.prog (w2.gr p) = .ok (.int .i64 (x.p : Int)) (w2.gr p) := fun p => by
    have := (HP.out.kept0 (HG2.out.gr p)).at x.t ht
    simpa [HX.out] using this
  clear b0 b1 b2 b3 b4 b5 b6 b7 b8
  obtain ⟨b0, b1, b2, b3, b4, b5, b6, b7, b8⟩ := HB2.out.cells
  have hmb2 : mb < w2.heap.size := by omega
  have hNl := lt_of_block HB2.out
  simp only [Tup.val, Tup.cs] at hlook
  refine wp_region_gr (by kernel_rfl) (by kernel_rfl) ?_
  repeat (go_big_quiet_step (fail))
  refine wpQuiet_nil ?_
  rintro _ ⟨q1, rfl⟩
  go_wp2_with (first | (go_at_call 19; refine Calls.mono (out_any _ mb g n cap x.p tu nu ah bk (gn_cell ((Gn.refl _).gr q1) c2) (Nat.lt_of_lt_of_le hmb2 ((Gn.refl _).gr q1).size) (HL.out.kept (Kp.of_gn (fun _ => False) (HG2.out.gr q1)) (fun e => e)) hmg hi ha hb hn1) ?_; rintro _ w3 ⟨⟨v3, rfl⟩, h2, h3⟩; have HL3 : Hid (Links w3 g n cap tu nu (upd ah (bk x.p) (ah x.p)) (upd bk (ah x.p) (bk x.p))) := h2; have HK3 : Hid (Kp (fun k => k = g) w w3) := (Kp.of_gn _ (HG2.out.gr q1)).trans h3; clear h2 h3) | (go_at_call 20; refine Calls.mono (first_any _ mb g n cap x.p tu nu _ _ (HXM.out.kept HK3.out hmg (fun k e e2 => HXM.out.f3 (e2 ▸ e))).c2 (HXM.out.kept HK3.out hmg (fun k e e2 => HXM.out.f3 (e2 ▸ e))).lt HL3.out hmg hi hb1 hn1) ?_; rintro _ w4 ⟨⟨v4, rfl⟩, h2, h3⟩; have HL4 : Hid (Links w4 g n cap tu nu (upd (upd (upd ah (bk x.p) (ah x.p)) x.p 0) (upd bk (ah x.p) (bk x.p) 0) x.p) (upd (upd (upd bk (ah x.p) (bk x.p)) x.p (upd bk (ah x.p) (bk x.p) 0)) 0 x.p)) := h2; have HK4 : Hid (Kp (fun k => k = g) w w4) := HK3.out.trans h3; clear h2 h3))
  go_ret2
  have hX4 := HXM.out.kept HK4.out hmg (fun k e e2 => HXM.out.f3 (e2 ▸ e))
  have hP4 := HP.out.kept HK4.out HXM.out.n3
  refine ⟨rfl, ⟨r, g, n, cap, fv, fr, tu, nu, _, _, hX4, HL4.out, ?_, ?_, hn⟩, HK4.out.mono (fun k _ e => by (have := HXM.out.a3); (subst e); exact this)⟩
  · have e1 : (fun u => (findE u (x :: cutE x.t (xs ++ x :: ys))).map (·.p)) = fun u => (findE u (xs ++ x :: ys)).map (·.p) := by
      funext u
      by_cases hu : u = x.t
      · subst hu; rw [HX.out]; simp [findE]
      · have : findE u (x :: cutE x.t (xs ++ x :: ys)) = findE u (cutE x.t (xs ++ x :: ys)) := by simp [findE, List.find?_cons, Ne.symm hu]
        rw [this, findE_cut_other hu]
    have e2 : (x :: cutE x.t (xs ++ x :: ys)).length = (xs ++ x :: ys).length := by rw [HC.out]; simp; omega
    rw [e2]
    have e3 := e1.symm
    show Mp w4 r (fun u => (findE u (x :: cutE x.t (xs ++ x :: ys))).map (·.p)) _
    rw [e1]
    exact hP4
  · rw [HC.out]; exact HI.out
end Go.Proofs.Ytdfhcjhhjjbpoaa
