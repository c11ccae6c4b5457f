/- Put. -/
import Derived.Test.YtdfhcjhhjjbpoaaE52
import Derived.Test.YtdfhcjhhjjbpoaaMixZ
namespace Go.Proofs.Ytdfhcjhhjjbpoaa
open Go.RowKit

theorem quiet_len49 {ops : Array Oper} {C : World → Prop} {Q : Act → Prop} {a : Act} {o : Oper} {rest : List Oper} (hgd : o.guard = none) (m : Operand) (hop : o.op = Op.call { callee := Callee.builtin Builtin.len, args := #[m], argTypes := #[49] })
    {b c : Nat} (hm : a.eval m = .map (some b)) (hC : ∀ w, C w → ∃ f, Mp w b f c) (h : wpQuiet Try.prog ops C Q rest (a.put o.dst (.int .i64 c))) : wpQuiet Try.prog ops C Q (o :: rest) a :=
  wpQuiet_step fun K hK => by
  rw [if_pos (by simp [Region.wanted, hgd])]
  exact ⟨_, fun w hw => by
    obtain ⟨f, n, D, h1, h2, h3, h4⟩ := hC w hw
    have hrun := h1.len Try.underlying49 o.type
    rw [h3] at hrun
    unfold Oper.quietAt
    simp only [execOp, hop, resolve, invoke, builtin, Sem.run_bind, Sem.run_pure, Result.andThen_ok, List.map_toArray, List.map_cons, List.map_nil, hm, hrun]
    exact ⟨rfl, rfl⟩, hK _ h⟩
theorem gb_setCells {b : Nat} : ∀ (vs : List Value) (o : Nat) (w : World), w.grownBy (w.setCells b o vs) (some b)
  | [], o, w => gb_refl _ _
  | v :: vs, o, w => by
    have h2 : w.grownBy (w.setCell ⟨b, o, none⟩ v) (some b) := gb_set (gb_refl _ _) _ _
    have h4 := gb_setCells (b := b) vs (o + 1) (w.setCell ⟨b, o, none⟩ v)
    exact ⟨h4.os.trans h2.os, h4.tape.trans h2.tape, h4.output.trans h2.output, Nat.le_trans h2.size h4.size, fun k hk hne => (h4.block k (Nat.lt_of_lt_of_le hk h2.size) hne).trans (h2.block k hk hne)⟩
def putAll : Array Value → Nat → List Value → Array Value
  | cur, _, [] => cur
  | cur, o, v :: vs => putAll (cur.setIfInBounds o v) (o + 1) vs
theorem blk_setCells {N : Nat} {T : TypeId} : ∀ (vs : List Value) (o : Nat) (w : World) (cur : Array Value), w.heap[N]? = some (.cells cur T (0, 0)) → (w.setCells N o vs).heap[N]? = some (.cells (putAll cur o vs) T (0, 0))
  | [], o, w, cur, h => h
  | v :: vs, o, w, cur, h => blk_setCells vs (o + 1) _ _ (heap_setCell_same w N o cur T v h)
theorem Bx.store {w : World} {N : Nat} {u : Tup} (h : Bx w N u) (t : Tup) : Bx (w.setCells N 0 t.cs.toList) N t := by
  have h2 := blk_setCells t.cs.toList 0 w u.cs h
  have e : putAll u.cs 0 t.cs.toList = t.cs := by simp [putAll, Tup.cs]
  rw [e] at h2
  exact h2
theorem wpList_store_box {w : World} {ops : Array Oper} {rest : List Oper} {o : Oper} {a : Act} {Q : Exit → Act → World → Prop} (hgd : o.guard = none) (p v : Operand) (ho : o.op = .store 32 p v) {N : Nat} {u : Tup} (t : Tup)
    (hp : a.eval p = .pointer (some ⟨N, 0, none⟩)) (hv : a.eval v = .agg t.cs) (h : Bx w N u) (hK : ∀ w', Bx w' N t → w.grownBy w' (some N) → wpList Try.prog ops Q rest (a.put o.dst undef) w') : wpList Try.prog ops Q (o :: rest) a w := by
  refine wpList_store_mid hgd 32 p v ho N 0 t.cs hp hv (fun j hj => ⟨?_, ?_⟩) (by kernel_rfl) (by simp [Tup.cs, Value.oneCell']) (hK _ (h.store t) (gb_setCells _ _ _))
  · unfold World.cell?
    rw [show w.heap[N]? = _ from h]
    have : j < u.cs.size := hj
    simp [this]
  · unfold World.frozen?
    rw [show w.heap[N]? = _ from h]
    simp
theorem Bx.val {w : World} {N : Nat} {t : Tup} (h : Bx w N t) : w.rangeAt N 0 t.cs.toList := fun j v hv => by
  unfold World.cell?
  rw [show w.heap[N]? = _ from h]
  simpa using hv
theorem wpList_load_box {w : World} {ops : Array Oper} {rest : List Oper} {o : Oper} {a : Act} {Q : Exit → Act → World → Prop} (hgd : o.guard = none) (x : Operand) (ho : o.op = .load 32 x) {N : Nat} {t : Tup} (hx : a.eval x = .pointer (some ⟨N, 0, none⟩)) (h : Bx w N t)
    (hK : wpList Try.prog ops Q rest (a.put o.dst (.agg t.cs)) w) : wpList Try.prog ops Q (o :: rest) a w :=
  wpList_load_mid hgd 32 x ho N 0 hx t.cs.toList _ h.val Try.underlying32 rfl (by kernel_rfl) hK
def lastT (es : List Ent) : Tup := match es.getLast? with | some e => e.t | none => T0
/-- What Put tells, and leaves, once the entry lies ahead. -/
def putE (room : Int) (es : List Ent) : Tup × Bool × List Ent := if (es.length : Int) ≤ room then (T0, false, es) else (lastT es, true, cutE (lastT es) es)
theorem Inv.last {n : Nat} {tu : Nat → Tup} {nu : Nat → Int} {ah bk : Nat → Nat} {es : List Ent} {fr : List Nat} (h : Inv n tu nu ah bk es fr) (hne : es ≠ []) : ah 0 < n ∧ tu (ah 0) = lastT es ∧ (lastT es).ok := by
  rcases List.eq_nil_or_concat es with rfl | ⟨ys, l, rfl⟩
  · exact absurd rfl hne
  · rw [List.concat_eq_append] at h ⊢
    have h1 := chain_last h.ring
    have e : ah 0 = l.p := by
      rw [h1]
      simp only [List.map_append, List.map_cons, List.map_nil]
      rw [List.getLast_cons (by simp)]
      simp
    have hl : lastT (ys ++ [l]) = l.t := by simp [lastT]
    rw [e, hl]
    exact ⟨h.lt _ (by simp), (h.cells l (by simp)).1, h.ok l (by simp)⟩
theorem put_any (w : World) (mb : Nat) (A : Nat → Prop) (room : Int) (es : List Ent) (K : Nat) (h : Mem w mb A room es K) (hA : ∀ k, A k → k < w.heap.size) (hK : K ≤ 900) (t : Tup) (ht : t.ok) (x : Int) :
    Calls Try.prog 14 #[.pointer (some ⟨mb, 0, none⟩), t.val, .int .i64 x] w fun e w' => ∃ p, e = .returned (.tuple #[(putE room (⟨t, x, p⟩ :: cutE t es)).1.val, .bool (putE room (⟨t, x, p⟩ :: cutE t es)).2.1]) ∧ Mem w' mb (Nb A w w') room (putE room (⟨t, x, p⟩ :: cutE t es)).2.2 (K + 1) ∧ Kp A w w' := by
  have hB := Bx.new w t
  have HG : Hid (Gn w ((w.alloc (.cells t.cs 32)).alloc (.cells T0.cs 32))) := ((Gn.refl w).alloc _).alloc _
  have HB : Hid (Bx ((w.alloc (.cells t.cs 32)).alloc (.cells T0.cs 32)) w.heap.size t) := hB.kept (Kp.of_gn (fun _ => False) ((Gn.refl _).alloc _)) (fun e => e)
  have HR : Hid (Bx ((w.alloc (.cells t.cs 32)).alloc (.cells T0.cs 32)) (w.heap.size + 1) T0) := by
    have := Bx.new (w.alloc (.cells t.cs 32)) T0
    rw [size_alloc] at this
    exact this
  have HM : Hid (Mem ((w.alloc (.cells t.cs 32)).alloc (.cells T0.cs 32)) mb A room es K) := h.grown HG.out
  have HS : Hid (((w.alloc (.cells t.cs 32)).alloc (.cells T0.cs 32)).heap.size = w.heap.size + 2) := by show _ = _; rw [size_alloc, size_alloc]
  obtain ⟨r0, _, _, _, _, _, _, _, _, _, hM0, _⟩ := HM.out
  have c1 := hM0.c1
  clear h hB hM0
  obtain ⟨b0, b1, b2, b3, b4, b5, b6, b7, b8⟩ := HB.out.cells
  have HT : Hid (t.ok) := ht
  clear ht
  simp only [Tup.val, Tup.cs, T0] at b0 b1 b2 b3 b4 b5 b6 b7 b8 c1 ⊢
  go_enter Try.func14, Try.ntmps14
  go_wp2_with (first | (go_at_call 21; refine Calls.mono (given_any _ mb r0 0 c1) ?_; rintro _ _ ⟨rfl, rfl⟩) | (go_at_call 12; refine Calls.mono (cut_any _ mb A room es K HM.out (by omega) t HT.out) ?_; rintro _ w2 ⟨rfl, h2, h3⟩; have HB2 : Hid (Bx w2 w.heap.size t) := HB.out.kept h3 (fun e => Nat.lt_irrefl _ (hA _ e)); have HR2 : Hid (Bx w2 (w.heap.size + 1) T0) := HR.out.kept h3 (fun e => by (have := hA _ e); omega); have HK2 : Hid (Kp A w w2) := (Kp.of_gn A HG.out).trans h3; have hs2 : w.heap.size + 2 ≤ w2.heap.size := HS.out ▸ h3.size; have HM2 : Hid (Mem w2 mb (Nd A (w.heap.size + 2) w2.heap.size) room (cutE t es) K) := h2.mono (fun k _ e => e.elim .inl (fun e => .inr ⟨by (have := HS.out); omega, e.2⟩)) (Nat.le_refl _); obtain ⟨r, g, n, cap, fv, fr, tu, nu, ah, bk, h4, h5, h6, h7, h8⟩ := HM2.out; have HX2 : Hid (Mx w2 mb (Nd A (w.heap.size + 2) w2.heap.size) room r g n cap fv fr) := h4; have HL2 : Hid (Links w2 g n cap tu nu ah bk) := h5; have HP2 : Hid (Mp w2 r (fun u => (findE u (cutE t es)).map (·.p)) (cutE t es).length) := h6; have HI2 : Hid (Inv n tu nu ah bk (cutE t es) fr) := h7; clear h2 h3 h4 h5 h6 h7 c1) | (go_at_call 22; refine Calls.mono (slot_any w2 mb _ room r g n cap fv fr tu nu ah bk HX2.out HL2.out (by omega) (by (have := HI2.out.len_fr); omega) (fun p hp => HI2.out.lt p (List.mem_append_right _ hp))) ?_; rintro _ w3 ⟨i, g3, n3, cap3, fv3, fr3, tu3, nu3, ah3, bk3, rfl, h1, h2, h3, h4, h5, h6⟩; have HX3 : Hid (Mx w3 mb (Nb (Nd A (w.heap.size + 2) w2.heap.size) w2 w3) room r g3 n3 cap3 fv3 fr3) := h1; have HL3 : Hid (Links w3 g3 n3 cap3 tu3 nu3 ah3 bk3) := h2; have HE3 : Hid (∀ p, p < n → tu3 p = tu p ∧ nu3 p = nu p ∧ ah3 p = ah p ∧ bk3 p = bk p) := h3; have HI3 : Hid ((fr = fr3 ++ [i] ∧ n3 = n) ∨ (fr = [] ∧ fr3 = [] ∧ i = n ∧ n3 = n + 1)) := h5; have HK3 : Hid (Kp (fun k => k = mb ∨ k = g) w2 w3) := h6; clear h1 h2 h3 h5 h6))
  have hNg : g < w.heap.size ∨ w.heap.size + 2 ≤ g := by
    rcases HX2.out.a3 with e | e
    · exact .inl (hA _ e)
    · exact .inr e.1
  have hNm : mb < w.heap.size ∨ w.heap.size + 2 ≤ mb := by
    rcases HX2.out.a1 with e | e
    · exact .inl (hA _ e)
    · exact .inr e.1
  have HB3 : Hid (Bx w3 w.heap.size t) := HB2.out.kept HK3.out (fun e => by omega)
  have HR3 : Hid (Bx w3 (w.heap.size + 1) T0) := HR2.out.kept HK3.out (fun e => by omega)
  clear HB2 HR2
  have c2 := HX3.out.c2
  obtain ⟨b0, b1, b2, b3, b4, b5, b6, b7, b8⟩ := HB3.out.cells
  have hcp := HL3.out.cap_le
  have hn3 : n3 ≤ 1000 := by have := HI3.out; omega
  have hfz : ∀ j, w3.frozen? ⟨g3, j, none⟩ = false := HL3.out.free
  go_still_tail 9, (by kernel_rfl)
  change wpList _ _ _ _ _ w3.drew
  refine wpList_store_link rfl _ _ rfl t x rfl rfl (HL3.out.kept (Kp.of_gn (fun _ => False) ((Gn.refl _).drew)) (fun e => e)) h4 ?_
  intro w4 h1 h2
  have hrg : r ≠ g := HX2.out.n3
  have hrm : mb ≠ r := HX2.out.n1
  have hNg3 : g3 < w.heap.size ∨ w.heap.size + 2 ≤ g3 := by
    rcases HX3.out.a3 with (e | e) | e
    · exact .inl (hA _ e)
    · exact .inr e.1
    · exact .inr (by omega)
  have hNr : r < w.heap.size ∨ w.heap.size + 2 ≤ r := by
    rcases HX2.out.a2 with e | e
    · exact .inl (hA _ e)
    · exact .inr e.1
  have hrg3 : r ≠ g3 := HX3.out.n3
  have hmg3 : mb ≠ g3 := HX3.out.n2
  have HK4 : Hid (Kp (fun k => k = g3) w3 w4) := (Kp.of_gn _ ((Gn.refl _).drew)).trans (Kp.of_gb h2 (fun k e => by (cases e); rfl))
  have HL4 : Hid (Links w4 g3 n3 cap3 (fun p => if p = i then t else tu3 p) (fun p => if p = i then x else nu3 p) (upd ah3 i 0) (upd bk3 i 0)) := h1
  have HX4 : Hid (Mx w4 mb (Nb (Nd A (w.heap.size + 2) w2.heap.size) w2 w3) room r g3 n3 cap3 fv3 fr3) := HX3.out.kept HK4.out hmg3 (fun k e e2 => HX3.out.f3 (e2 ▸ e))
  have HP4 : Hid (Mp w4 r (fun u => (findE u (cutE t es)).map (·.p)) (cutE t es).length) := (HP2.out.kept HK3.out (fun e => e.elim (fun e => hrm e.symm) hrg)).kept HK4.out hrg3
  have HB4 : Hid (Bx w4 w.heap.size t) := HB3.out.kept HK4.out (fun e => by omega)
  have HR4 : Hid (Bx w4 (w.heap.size + 1) T0) := HR3.out.kept HK4.out (fun e => by omega)
  clear h1 h2 b0 b1 b2 b3 b4 b5 b6 b7 b8 c2 hfz HB3 HR3 HL3
  have c1 := HX4.out.c1
  obtain ⟨b0, b1, b2, b3, b4, b5, b6, b7, b8⟩ := HB4.out.cells
  have hlen : (cutE t es).length < n := by have := HI2.out.sz; omega
  have hi3 : i ≤ 1000000 := by omega
  go_wp2
  go_still_tail 6, (by kernel_rfl)
  change wpList _ _ _ _ _ w4.drew
  refine wpList_map_put rfl _ _ _ rfl rfl (HP4.out.kept0 ((Gn.refl _).drew)) (by omega) t HT.out rfl (by rw [findE_cut_same]; rfl) i hi3 rfl ?_
  intro w5 h1 h2
  have HP5 : Hid (Mp w5 r (fun u => (findE u (⟨t, x, i⟩ :: cutE t es)).map (·.p)) ((cutE t es).length + 1)) := mp_put h1
  have HK5 : Hid (Kp (fun k => k = r) w4 w5) := (Kp.of_gn _ ((Gn.refl _).drew)).trans (Kp.of_gb h2 (fun k e => by (cases e); rfl))
  have HX5 : Hid (Mx w5 mb (Nb (Nd A (w.heap.size + 2) w2.heap.size) w2 w3) room r g3 n3 cap3 fv3 fr3) := HX4.out.kept HK5.out hrm (fun k e e2 => HX4.out.f2 (e2 ▸ e))
  have HL5 : Hid (Links w5 g3 n3 cap3 (fun p => if p = i then t else tu3 p) (fun p => if p = i then x else nu3 p) (upd ah3 i 0) (upd bk3 i 0)) := HL4.out.kept HK5.out (fun e => hrg3 e.symm)
  have HB5 : Hid (Bx w5 w.heap.size t) := HB4.out.kept HK5.out (fun e => by omega)
  have HR5 : Hid (Bx w5 (w.heap.size + 1) T0) := HR4.out.kept HK5.out (fun e => by omega)
  have HI5 : Hid (Inv n3 (fun p => if p = i then t else tu3 p) (fun p => if p = i then x else nu3 p) (upd (upd (upd ah3 i 0) i 0) (upd bk3 i 0 0) i) (upd (upd (upd bk3 i 0) i (upd bk3 i 0 0)) 0 i) (⟨t, x, i⟩ :: cutE t es) fr3) := HI2.out.put t x HT.out (findE_cut_same t es) HE3.out h4 HI3.out
  have hb0 : upd bk3 i 0 0 < n3 := by
    have h9 := chain_bk HI2.out.ring
    have hz : 0 < n := by omega
    have hnn : n ≤ n3 := by have := HI3.out; omega
    unfold upd
    split
    · omega
    · rw [(HE3.out 0 hz).2.2.2]
      rcases List.mem_append.1 h9 with e | e
      · have := HI2.out.lt _ (List.mem_append_left _ e); omega
      · have : bk 0 = 0 := by simpa using e
        omega
  clear h1 h2 b0 b1 b2 b3 b4 b5 b6 b7 b8 c1 HB4 HR4 HL4 HX4 HP4
  go_wp2_with (go_at_call 20; refine Calls.mono (first_any w5 mb g3 n3 cap3 i _ _ _ _ HX5.out.c2 HX5.out.lt HL5.out hmg3 h4 hb0 hn3) ?_; rintro _ w6 ⟨⟨v6, rfl⟩, h1, h2⟩; have HL6 : Hid (Links w6 g3 n3 cap3 (fun p => if p = i then t else tu3 p) (fun p => if p = i then x else nu3 p) (upd (upd (upd ah3 i 0) i 0) (upd bk3 i 0 0) i) (upd (upd (upd bk3 i 0) i (upd bk3 i 0 0)) 0 i)) := h1; have HK6 : Hid (Kp (fun k => k = g3) w5 w6) := h2; clear h1 h2)
  have HM6 : Hid (Mem w6 mb (Nb (Nd A (w.heap.size + 2) w2.heap.size) w2 w3) room (⟨t, x, i⟩ :: cutE t es) (K + 1)) := ⟨r, g3, n3, cap3, fv3, fr3, _, _, _, _, HX5.out.kept HK6.out hmg3 (fun k e e2 => HX5.out.f3 (e2 ▸ e)), HL6.out, HP5.out.kept HK6.out hrg3, HI5.out, by (have := HI3.out); omega⟩
  have HB6 : Hid (Bx w6 w.heap.size t) := HB5.out.kept HK6.out (fun e => by omega)
  have HR6 : Hid (Bx w6 (w.heap.size + 1) T0) := HR5.out.kept HK6.out (fun e => by omega)
  have HP6 : Hid (Mp w6 r (fun u => (findE u (⟨t, x, i⟩ :: cutE t es)).map (·.p)) ((cutE t es).length + 1)) := HP5.out.kept HK6.out hrg3
  have HX6 : Hid (Mx w6 mb (Nb (Nd A (w.heap.size + 2) w2.heap.size) w2 w3) room r g3 n3 cap3 fv3 fr3) := HX5.out.kept HK6.out hmg3 (fun k e e2 => HX5.out.f3 (e2 ▸ e))
  have HW6 : Hid (Kp A w w6) := by
    have k1 : Kp (fun k => A k ∨ w.heap.size + 2 ≤ k) w w6 := by
      refine ((((HK2.out.mono (fun k _ e => .inl e)).trans (HK3.out.mono (fun k _ e => ?_))).trans (HK4.out.mono (fun k _ e => ?_))).trans (HK5.out.mono (fun k _ e => ?_))).trans (HK6.out.mono (fun k _ e => ?_))
      · rcases e with rfl | rfl
        · exact HX2.out.a1.elim .inl (fun e => .inr e.1)
        · exact HX2.out.a3.elim .inl (fun e => .inr e.1)
      · subst e; exact HX3.out.a3.elim (fun e => e.elim .inl (fun e => .inr e.1)) (fun e => .inr (by omega))
      · subst e; exact HX2.out.a2.elim .inl (fun e => .inr e.1)
      · subst e; exact HX3.out.a3.elim (fun e => e.elim .inl (fun e => .inr e.1)) (fun e => .inr (by omega))
    exact k1.mono (fun k hk e => e.elim id (fun e => absurd hk (by omega)))
  have hs3 : w2.heap.size ≤ w3.heap.size := HK3.out.size
  have hs6 : w3.heap.size ≤ w6.heap.size := Nat.le_trans HK4.out.size (Nat.le_trans HK5.out.size HK6.out.size)
  clear HM HB HR HG HK2 HM2 HX2 HL2 HP2 HI2 HX3 HE3 HK3 HK4 HP5 HK5 HX5 HL5 HB5 HR5 HK6 hb0
  have c0 := HX6.out.c0
  have hmb6 := HX6.out.lt
  have c1 := HX6.out.c1
  obtain ⟨c6, hc6⟩ : ∃ c, (cutE t es).length + 1 = c := ⟨_, rfl⟩
  have HC6 : Hid ((cutE t es).length + 1 = c6) := hc6
  rw [hc6] at HP6
  clear hc6
  refine wp_region_gr (by kernel_rfl) (by kernel_rfl) ?_
  repeat (go_big_quiet_step (fail))
  refine quiet_len49 rfl _ rfl rfl (fun w' h => by (obtain ⟨p, rfl⟩ := h); exact ⟨_, HP6.out.kept0 ((Gn.refl _).gr p)⟩) ?_
  simp only [Act.put, List.setIfInBounds_toArray, List.set_cons_succ, List.set_cons_zero]
  repeat (go_big_quiet_step (fail))
  refine wpQuiet_nil ?_
  rintro _ ⟨q7, rfl⟩
  by_cases hle : (c6 : Int) ≤ room
  · have hd : decide ((c6 : Int) ≤ room) = true := decide_eq_true hle
    go_wp2_with (first | (refine wpList_store_box rfl _ _ rfl T0 rfl rfl (HR6.out.kept (Kp.of_gn (fun _ => False) ((Gn.refl _).gr q7)) (fun e => e)) ?_; intro w8 h1 h2; have HR8 : Hid (Bx w8 (w.heap.size + 1) T0) := h1; have HK8 : Hid (Kp (fun k => k = w.heap.size + 1) w6 w8) := (Kp.of_gn _ ((Gn.refl _).gr q7)).trans (Kp.of_gb h2 (fun k e => by (cases e); rfl)); clear h1 h2))
    have he : putE room (⟨t, x, i⟩ :: cutE t es) = (T0, false, ⟨t, x, i⟩ :: cutE t es) := by
      unfold putE
      rw [if_pos (by rw [List.length_cons, HC6.out]; exact hle)]
    refine bodyPost_ret (v := .tuple #[T0.val, .bool false]) ?_ rfl ⟨i, ?_, ?_, ?_⟩
    · have b := HR8.out.cells
      simp only [T0] at b
      obtain ⟨b0, b1, b2, b3, b4, b5, b6, b7, b8⟩ := b
      simp [results, Try.results14, go_sem, b0, b1, b2, b3, b4, b5, b6, b7, b8, Tup.val, Tup.cs, T0]
    · simp only [he]
      rfl
    · simp only [he]
      refine (HM6.out.kept HK8.out (fun k e e2 => ?_)).mono (fun k hk e => ?_) (Nat.le_refl _)
      · subst e2
        rcases e with (e | e) | e
        · have := hA _ e; omega
        · omega
        · omega
      · rcases e with (e | e) | e
        · exact .inl e
        · exact .inr ⟨by omega, hk⟩
        · exact .inr ⟨by omega, hk⟩
    · have k8 : Kp (fun k => A k ∨ w.heap.size ≤ k) w w8 := (HW6.out.mono (fun k _ e => .inl e)).trans (HK8.out.mono (fun k _ e => .inr (by omega)))
      exact k8.mono (fun k hk e => e.elim id (fun e => absurd e (by omega)))
  · have hd : decide ((c6 : Int) ≤ room) = false := decide_eq_false hle
    have he : putE room (⟨t, x, i⟩ :: cutE t es) = (lastT (⟨t, x, i⟩ :: cutE t es), true, cutE (lastT (⟨t, x, i⟩ :: cutE t es)) (⟨t, x, i⟩ :: cutE t es)) := by
      unfold putE
      rw [if_neg (by rw [List.length_cons, HC6.out]; exact hle)]
    obtain ⟨hp6, ht6, hok6⟩ := HI5.out.last (by simp)
    have hL6 := HL6.out
    obtain ⟨pl, hpl⟩ : ∃ p, upd (upd (upd ah3 i 0) i 0) (upd bk3 i 0 0) i 0 = p := ⟨_, rfl⟩
    have hz3 : 0 < n3 := by omega
    have a0 := hL6.ahead hz3
    rw [hpl] at a0 hp6 ht6
    rw [Nat.zero_mul, Nat.zero_add] at a0
    obtain ⟨lt, hlt⟩ : ∃ u, lastT (⟨t, x, i⟩ :: cutE t es) = u := ⟨_, rfl⟩
    rw [hlt] at he ht6 hok6
    have d0 := hL6.tup hp6 (j := 0) (by omega)
    have d1 := hL6.tup hp6 (j := 1) (by omega)
    have d2 := hL6.tup hp6 (j := 2) (by omega)
    have d3 := hL6.tup hp6 (j := 3) (by omega)
    have d4 := hL6.tup hp6 (j := 4) (by omega)
    have d5 := hL6.tup hp6 (j := 5) (by omega)
    have d6 := hL6.tup hp6 (j := 6) (by omega)
    have d7 := hL6.tup hp6 (j := 7) (by omega)
    have d8 := hL6.tup hp6 (j := 8) (by omega)
    rw [ht6] at d0 d1 d2 d3 d4 d5 d6 d7 d8
    simp only [Nat.add_zero, Tup.cs] at d0 d1 d2 d3 d4 d5 d6 d7 d8
    simp at d0 d1 d2 d3 d4 d5 d6 d7 d8
    have c2 := HX6.out.c2
    have hg6 := hL6.lt
    have hcp6 := hL6.cap_le
    have HG7 : Hid (Gn w6 (w6.gr q7)) := (Gn.refl _).gr q7
    replace c2 := gn_cell HG7.out c2
    replace a0 := gn_cell HG7.out a0
    replace d0 := gn_cell HG7.out d0
    replace d1 := gn_cell HG7.out d1
    replace d2 := gn_cell HG7.out d2
    replace d3 := gn_cell HG7.out d3
    replace d4 := gn_cell HG7.out d4
    replace d5 := gn_cell HG7.out d5
    replace d6 := gn_cell HG7.out d6
    replace d7 := gn_cell HG7.out d7
    replace d8 := gn_cell HG7.out d8
    have HE : Hid (putE room (⟨t, x, i⟩ :: cutE t es) = (lt, true, cutE lt (⟨t, x, i⟩ :: cutE t es))) := he
    have hs7 := HG7.out.size
    clear hL6 HL6 he hpl ht6 hlt c0 c1 HI5
    go_wp2
    generalize w6.gr q7 = w7 at *
    have hmb7 : mb < w7.heap.size := by omega
    have hg7 : g3 < w7.heap.size := by omega
    clear hmb6 hg6
    refine wp_region_z 15 16 (by kernel_rfl) rfl ?_
    refine wpMix_pick 0 (by kernel_rfl) rfl (by kernel_rfl) (by with_reducible (repeat (first | exact Gn.refl _ | refine Gn.gr ?_ _ | refine Gn.alloc ?_ _ | refine Gn.drew ?_))) (by kernel_rfl) (fun K hK => ?_); go_simp; first | (refine hK _ ?_; clear hK K) | (apply Exists.intro; refine ⟨fun _ => ?_, hK _ ?_⟩; first | (fail); clear hK K)
    refine wpMix_pick 1 (by kernel_rfl) rfl (by kernel_rfl) (by with_reducible (repeat (first | exact Gn.refl _ | refine Gn.gr ?_ _ | refine Gn.alloc ?_ _ | refine Gn.drew ?_))) (by kernel_rfl) (fun K hK => ?_); go_simp; first | (refine hK _ ?_; clear hK K) | (apply Exists.intro; refine ⟨fun _ => ?_, hK _ ?_⟩; first | (fail); clear hK K)
    refine wpMix_pick 2 (by kernel_rfl) rfl (by kernel_rfl) (by with_reducible (repeat (first | exact Gn.refl _ | refine Gn.gr ?_ _ | refine Gn.alloc ?_ _ | refine Gn.drew ?_))) (by kernel_rfl) (fun K hK => ?_); go_simp; first | (refine hK _ ?_; clear hK K) | (apply Exists.intro; refine ⟨fun _ => ?_, hK _ ?_⟩; first | (fail); clear hK K)
    refine wpMix_pick 3 (by kernel_rfl) rfl (by kernel_rfl) (by with_reducible (repeat (first | exact Gn.refl _ | refine Gn.gr ?_ _ | refine Gn.alloc ?_ _ | refine Gn.drew ?_))) (by kernel_rfl) (fun K hK => ?_); go_simp; first | (refine hK _ ?_; clear hK K) | (apply Exists.intro; refine ⟨fun _ => ?_, hK _ ?_⟩; first | (fail); clear hK K)
    refine wpMix_pick 4 (by kernel_rfl) rfl (by kernel_rfl) (by with_reducible (repeat (first | exact Gn.refl _ | refine Gn.gr ?_ _ | refine Gn.alloc ?_ _ | refine Gn.drew ?_))) (by kernel_rfl) (fun K hK => ?_); go_simp; first | (refine hK _ ?_; clear hK K) | (apply Exists.intro; refine ⟨fun _ => ?_, hK _ ?_⟩; first | (fail); clear hK K)
    refine wpMix_pick 5 (by kernel_rfl) rfl (by kernel_rfl) (by with_reducible (repeat (first | exact Gn.refl _ | refine Gn.gr ?_ _ | refine Gn.alloc ?_ _ | refine Gn.drew ?_))) (by kernel_rfl) (fun K hK => ?_); go_simp; first | (refine hK _ ?_; clear hK K) | (apply Exists.intro; refine ⟨fun _ => ?_, hK _ ?_⟩; first | (fail); clear hK K)
    refine wpMix_pick 6 (by kernel_rfl) rfl (by kernel_rfl) (by with_reducible (repeat (first | exact Gn.refl _ | refine Gn.gr ?_ _ | refine Gn.alloc ?_ _ | refine Gn.drew ?_))) (by kernel_rfl) (fun K hK => ?_); go_simp; first | (refine hK _ ?_; clear hK K) | (apply Exists.intro; refine ⟨fun _ => ?_, hK _ ?_⟩; first | (fail); clear hK K)
    refine wpMix_pick 7 (by kernel_rfl) rfl (by kernel_rfl) (by with_reducible (repeat (first | exact Gn.refl _ | refine Gn.gr ?_ _ | refine Gn.alloc ?_ _ | refine Gn.drew ?_))) (by kernel_rfl) (fun K hK => ?_); go_simp; first | (refine hK _ ?_; clear hK K) | (apply Exists.intro; refine ⟨fun _ => ?_, hK _ ?_⟩; first | (fail); clear hK K)
    refine wpMix_pick 8 (by kernel_rfl) rfl (by kernel_rfl) (by with_reducible (repeat (first | exact Gn.refl _ | refine Gn.gr ?_ _ | refine Gn.alloc ?_ _ | refine Gn.drew ?_))) (by kernel_rfl) (fun K hK => ?_); go_simp; first | (refine hK _ ?_; clear hK K) | (apply Exists.intro; refine ⟨fun _ => ?_, hK _ ?_⟩; first | (fail); clear hK K)
    refine wpMix_pick 9 (by kernel_rfl) rfl (by kernel_rfl) (by with_reducible (repeat (first | exact Gn.refl _ | refine Gn.gr ?_ _ | refine Gn.alloc ?_ _ | refine Gn.drew ?_))) (by kernel_rfl) (fun K hK => ?_); go_simp; first | (refine hK _ ?_; clear hK K) | (apply Exists.intro; refine ⟨fun _ => ?_, hK _ ?_⟩; first | (fail); clear hK K)
    refine wpMix_pick 10 (by kernel_rfl) rfl (by kernel_rfl) (by with_reducible (repeat (first | exact Gn.refl _ | refine Gn.gr ?_ _ | refine Gn.alloc ?_ _ | refine Gn.drew ?_))) (by kernel_rfl) (fun K hK => ?_); go_simp; first | (refine hK _ ?_; clear hK K) | (apply Exists.intro; refine ⟨fun _ => ?_, hK _ ?_⟩; first | (fail); clear hK K)
    refine wpMix_pick 11 (by kernel_rfl) rfl (by kernel_rfl) (by with_reducible (repeat (first | exact Gn.refl _ | refine Gn.gr ?_ _ | refine Gn.alloc ?_ _ | refine Gn.drew ?_))) (by kernel_rfl) (fun K hK => ?_); go_simp; first | (refine hK _ ?_; clear hK K) | (apply Exists.intro; refine ⟨fun _ => ?_, hK _ ?_⟩; first | (fail); clear hK K)
    refine wpMix_pick 12 (by kernel_rfl) rfl (by kernel_rfl) (by with_reducible (repeat (first | exact Gn.refl _ | refine Gn.gr ?_ _ | refine Gn.alloc ?_ _ | refine Gn.drew ?_))) (by kernel_rfl) (fun K hK => ?_); go_simp; first | (refine hK _ ?_; clear hK K) | (apply Exists.intro; refine ⟨fun _ => ?_, hK _ ?_⟩; first | (fail); clear hK K)
    refine wpMix_pick 13 (by kernel_rfl) rfl (by kernel_rfl) (by with_reducible (repeat (first | exact Gn.refl _ | refine Gn.gr ?_ _ | refine Gn.alloc ?_ _ | refine Gn.drew ?_))) (by kernel_rfl) (fun K hK => ?_); go_simp; first | (refine hK _ ?_; clear hK K) | (apply Exists.intro; refine ⟨fun _ => ?_, hK _ ?_⟩; first | (fail); clear hK K)
    refine wpMix_one (i := 14) (by kernel_rfl) rfl ?_
    intro p14
    go_wp2
    refine ⟨(by with_reducible (repeat (first | exact Gn.refl _ | refine Gn.gr ?_ _ | refine Gn.alloc ?_ _ | refine Gn.drew ?_))), ?_⟩
    refine wpMix_one (i := 15) (by kernel_rfl) rfl ?_
    intro p15
    refine wpList_store_box rfl _ _ rfl lt (N := w7.heap.size + p14.os.size) (u := T0) rfl rfl ?_ ?_
    · have b := Bx.new (w7.gr p14) T0
      rw [size_gr] at b
      exact b.kept (Kp.of_gn (fun _ => False) ((Gn.refl _).gr p15)) (fun e => e)
    intro w8 h1 h2
    have HK8 : Hid (Kp (fun k => k = w7.heap.size + p14.os.size) w7 w8) := (Kp.of_gn _ ((((Gn.refl w7).gr p14).alloc _).gr p15)).trans (Kp.of_gb h2 (fun k e => by (cases e); rfl))
    have HG8 : Hid (Gn w6 w8) := HG7.out.trans (HK8.out.to_gn (fun k e => by omega))
    have hNl : w7.heap.size ≤ w7.heap.size + p14.os.size := by omega
    have HB8 : Hid (Bx w8 (w7.heap.size + p14.os.size) lt) := h1
    clear h1 h2 HK8 d0 d1 d2 d3 d4 d5 d6 d7 d8 a0 c2
    generalize w7.heap.size + p14.os.size = N7 at *
    have hs8 := HG8.out.size
    go_wp2
    refine wpMix_done (by kernel_rfl) ?_
    intro pz
    have HBz : Hid (Bx (w8.gr pz) N7 lt) := HB8.out.kept (Kp.of_gn (fun _ => False) ((Gn.refl _).gr pz)) (fun e => e)
    have hsz8 : w8.heap.size ≤ (w8.gr pz).heap.size := ((Gn.refl _).gr pz).size
    go_wp2_with (first | (go_at_call 12; refine Calls.mono (cut_any _ mb _ room _ (K + 1) (HM6.out.grown (HG8.out.gr pz)) (by omega) lt hok6) ?_; rintro _ w9 ⟨rfl, h1, h2⟩; have HM9 : Hid (Mem w9 mb (Nb (Nb (Nd A (w.heap.size + 2) w2.heap.size) w2 w3) (w8.gr pz) w9) room (cutE lt (⟨t, x, i⟩ :: cutE t es)) (K + 1)) := h1; have HK9 : Hid (Kp (Nb (Nd A (w.heap.size + 2) w2.heap.size) w2 w3) (w8.gr pz) w9) := h2; have HB9 : Hid (Bx w9 N7 lt) := HBz.out.kept h2 (fun e => by (rcases e with (e | e) | e); (have := hA _ e; omega); omega; omega); have HR9 : Hid (Bx w9 (w.heap.size + 1) T0) := (HR6.out.kept (Kp.of_gn (fun _ => False) (HG8.out.gr pz)) (fun e => e)).kept h2 (fun e => by (rcases e with (e | e) | e); (have := hA _ e; omega); omega; omega); clear h1 h2) | (refine wpList_load_box rfl _ rfl rfl HB9.out ?_) | (refine wpList_load_box rfl _ rfl rfl HBz.out ?_) | (refine wpList_store_box rfl _ _ rfl lt rfl rfl HR9.out ?_; intro w10 h1 h2; have HR10 : Hid (Bx w10 (w.heap.size + 1) lt) := h1; have HK10 : Hid (Kp (fun k => k = w.heap.size + 1) w9 w10) := Kp.of_gb h2 (fun k e => by (cases e); rfl); clear h1 h2))
    have hs9 := HK9.out.size
    have hs10 := HK10.out.size
    refine bodyPost_ret (v := .tuple #[lt.val, .bool true]) ?_ rfl ⟨i, ?_, ?_, ?_⟩
    · obtain ⟨b0, b1, b2, b3, b4, b5, b6, b7, b8⟩ := HR10.out.cells
      simp [results, Try.results14, go_sem, b0, b1, b2, b3, b4, b5, b6, b7, b8, Tup.val, Tup.cs]
    · simp only [HE.out]
      rfl
    · simp only [HE.out]
      refine (HM9.out.kept HK10.out (fun k e e2 => ?_)).mono (fun k hk e => ?_) (Nat.le_refl _)
      · subst e2
        rcases e with ((e | e) | e) | e
        · have := hA _ e; omega
        · omega
        · omega
        · omega
      · rcases e with ((e | e) | e) | e
        · exact .inl e
        · exact .inr ⟨by omega, hk⟩
        · exact .inr ⟨by omega, hk⟩
        · exact .inr ⟨by omega, hk⟩
    · have k8 : Kp (fun k => A k ∨ w.heap.size ≤ k) w w10 := (((HW6.out.mono (fun k _ e => .inl e)).trans (Kp.of_gn _ (HG8.out.gr pz))).trans (HK9.out.mono (fun k _ e => by
        rcases e with (e | e) | e
        · exact .inl e
        · exact .inr (by omega)
        · exact .inr (by omega)))).trans (HK10.out.mono (fun k _ e => .inr (by omega)))
      exact k8.mono (fun k hk e => e.elim id (fun e => absurd e (by omega)))
end Go.Proofs.Ytdfhcjhhjjbpoaa
