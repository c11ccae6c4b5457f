/- LruLast's walk. -/
import Derived.Test.YtdfhcjhhjjbpoaaL52
import Derived.Test.YtdfhcjhhjjbpoaaW52
namespace Go.Proofs.Ytdfhcjhhjjbpoaa
open Go.RowKit

theorem eq_tup (w : World) (t u : Tup) : (binOp .eql 32 t.val u.val).run Try.prog w = .ok (.bool (decide (t = u))) w := by
  obtain ⟨a0, a1, a2, a3, a4, a5, a6, a7, a8⟩ := t
  obtain ⟨b0, b1, b2, b3, b4, b5, b6, b7, b8⟩ := u
  simp [Tup.val, Tup.cs, go_sem]
  repeat' split
  all_goals simp_all
theorem TC.facts {w : World} {b off : Nat} {l : List Tup} (h : TC w b off l) {k : Nat} (hk : k < l.length) :
    w.cell? ⟨b, off + k * 9, none⟩ = some (.int .i64 (tl l k).p) ∧ w.cell? ⟨b, off + k * 9 + 1, none⟩ = some (.bool (tl l k).a) ∧ w.cell? ⟨b, off + k * 9 + 2, none⟩ = some (.int .u64 (tl l k).b) ∧ w.cell? ⟨b, off + k * 9 + 3, none⟩ = some (.int .u64 (tl l k).c) ∧ w.cell? ⟨b, off + k * 9 + 4, none⟩ = some (.bool (tl l k).d) ∧
    w.cell? ⟨b, off + k * 9 + 5, none⟩ = some (.int .u64 (tl l k).e) ∧ w.cell? ⟨b, off + k * 9 + 6, none⟩ = some (.int .u64 (tl l k).f) ∧ w.cell? ⟨b, off + k * 9 + 7, none⟩ = some (.int .i64 (tl l k).s) ∧ w.cell? ⟨b, off + k * 9 + 8, none⟩ = some (.int .i64 (tl l k).t) :=
  ⟨h.2 k hk 0 (by omega), h.2 k hk 1 (by omega), h.2 k hk 2 (by omega), h.2 k hk 3 (by omega), h.2 k hk 4 (by omega), h.2 k hk 5 (by omega), h.2 k hk 6 (by omega), h.2 k hk 7 (by omega), h.2 k hk 8 (by omega)⟩
theorem tl_mem {l : List Tup} {k : Nat} (hk : k < l.length) : tl l k ∈ l := by
  unfold tl
  rw [List.getElem?_eq_getElem hk]
  exact List.getElem_mem hk
def intOf : Value → Int
  | .int _ x => x
  | _ => 0
theorem Mem.nodup {w : World} {mb : Nat} {A : Nat → Prop} {room : Int} {es : List Ent} {K : Nat} (h : Mem w mb A room es K) : (es.map (·.t)).Nodup := by
  obtain ⟨_, _, _, _, _, _, _, _, _, _, _, _, _, h1, _⟩ := h
  exact h1.tn
theorem putE_len {n : Nat} {es : List Ent} {t : Tup} {x : Int} {p : Nat} (hn : (es.map (·.t)).Nodup) (h : es.length ≤ n) : ((putE n (⟨t, x, p⟩ :: cutE t es)).2.2.length : Nat) ≤ n := by
  have h1 := cutE_length t es
  unfold putE
  by_cases hle : ((((⟨t, x, p⟩ : Ent) :: cutE t es).length : Nat) : Int) ≤ n
  · rw [if_pos hle]; exact Int.ofNat_le.1 hle
  · rw [if_neg hle]
    have hnd : (((⟨t, x, p⟩ : Ent) :: cutE t es).map (·.t)).Nodup := by
      simp only [List.map_cons, List.nodup_cons]
      refine ⟨fun hh => ?_, hn.sublist (List.Sublist.map _ List.filter_sublist)⟩
      obtain ⟨e, he, h2⟩ := List.mem_map.1 hh
      have := (List.mem_filter.1 he).2
      simp [h2] at this
    show (cutE _ _).length ≤ n
    rw [cutE_last hnd (by simp)]
    simp only [List.length_dropLast, List.length_cons]
    omega
theorem put_nodup {es : List Ent} {t : Tup} {x : Int} {p : Nat} (hn : (es.map (·.t)).Nodup) : (((⟨t, x, p⟩ : Ent) :: cutE t es).map (·.t)).Nodup := by
  simp only [List.map_cons, List.nodup_cons]
  refine ⟨fun hh => ?_, hn.sublist (List.Sublist.map _ List.filter_sublist)⟩
  obtain ⟨e, he, h2⟩ := List.mem_map.1 hh
  have := (List.mem_filter.1 he).2
  simp [h2] at this
theorem tcs_at : ∀ (l : List Tup) (k j : Nat), k < l.length → j < 9 → (tcs l)[k * 9 + j]? = (tl l k).cs[j]?
  | t :: l, 0, j, _, hj => by
    have e : tcs (t :: l) = t.cs.toList ++ tcs l := rfl
    have hl : t.cs.toList.length = 9 := rfl
    rw [e, Nat.zero_mul, Nat.zero_add, List.getElem?_append_left (by omega)]
    simp [tl]
  | t :: l, k + 1, j, hk, hj => by
    have e : tcs (t :: l) = t.cs.toList ++ tcs l := rfl
    have hl : t.cs.toList.length = 9 := rfl
    have e2 : (k + 1) * 9 + j - 9 = k * 9 + j := by omega
    rw [e, List.getElem?_append_right (by omega), hl, e2, tcs_at l k j (by simpa using hk) hj]
    simp [tl]
theorem TR.facts {w : World} {base : Nat} {v : Value} {l : List Tup} (h : TR w base v l) {k : Nat} (hk : k < l.length) : ∃ g cap, v = .slice (some ⟨g, 0, none⟩) l.length cap ∧ g < w.heap.size ∧
    w.cell? ⟨g, k * 9, none⟩ = some (.int .i64 (tl l k).p) ∧ w.cell? ⟨g, k * 9 + 1, none⟩ = some (.bool (tl l k).a) ∧ w.cell? ⟨g, k * 9 + 2, none⟩ = some (.int .u64 (tl l k).b) ∧ w.cell? ⟨g, k * 9 + 3, none⟩ = some (.int .u64 (tl l k).c) ∧ w.cell? ⟨g, k * 9 + 4, none⟩ = some (.bool (tl l k).d) ∧
    w.cell? ⟨g, k * 9 + 5, none⟩ = some (.int .u64 (tl l k).e) ∧ w.cell? ⟨g, k * 9 + 6, none⟩ = some (.int .u64 (tl l k).f) ∧ w.cell? ⟨g, k * 9 + 7, none⟩ = some (.int .i64 (tl l k).s) ∧ w.cell? ⟨g, k * 9 + 8, none⟩ = some (.int .i64 (tl l k).t) := by
  obtain ⟨g, cap, rfl⟩ := own_some h.1 (by omega)
  have hc : ∀ j, j < 9 → w.cell? ⟨g, k * 9 + j, none⟩ = (tl l k).cs[j]? := fun j hj => by rw [h.1.cellAt _ (by omega)]; exact tcs_at l k j hk hj
  exact ⟨g, cap, rfl, (h.1.lt g rfl).2, hc 0 (by omega), hc 1 (by omega), hc 2 (by omega), hc 3 (by omega), hc 4 (by omega), hc 5 (by omega), hc 6 (by omega), hc 7 (by omega), hc 8 (by omega)⟩
theorem mem_take {l : List Tup} {k : Nat} (hk : k < l.length) (t : Tup) : decide (t ∈ l.take (k + 1)) = (decide (t ∈ l.take k) || decide (tl l k = t)) := by
  have e : l.take (k + 1) = l.take k ++ [tl l k] := by
    rw [List.take_add_one, List.getElem?_eq_getElem hk]
    simp [tl, hk]
  rw [e]
  by_cases h1 : t ∈ l.take k <;> by_cases h2 : tl l k = t <;> simp [h1, h2, eq_comm]
  · intro h3; exact h2 h3.symm
theorem findE_mem {es : List Ent} (hn : (es.map (·.t)).Nodup) {e : Ent} (he : e ∈ es) : findE e.t es = some e := by
  rcases h : findE e.t es with _ | y
  · simp only [findE, List.find?_eq_none, decide_eq_true_eq] at h
    exact absurd rfl (h e he)
  · obtain ⟨xs, ys, rfl, h2, h3⟩ := findE_split h hn
    rcases List.mem_append.1 he with h4 | h4
    · simp only [List.map_append, List.map_cons] at hn
      exact absurd h2.symm ((List.nodup_append.1 hn).2.2 e.t (List.mem_map.2 ⟨e, h4, rfl⟩) y.t (by simp))
    · rcases List.mem_cons.1 h4 with rfl | h5
      · rfl
      · simp only [List.map_append, List.map_cons] at hn
        have := (List.nodup_cons.1 (List.nodup_append.1 hn).2.1).1
        exact absurd (List.mem_map.2 ⟨e, h5, h2.symm⟩) this
theorem TR.shape {w : World} {base : Nat} {v : Value} {l : List Tup} (h : TR w base v l) : ∃ o c, v = .slice o l.length c := by
  rcases h.1.2 with ⟨e, h0⟩ | ⟨g, cap, _, e, _⟩
  · exact ⟨_, _, by rw [e, h0]⟩
  · exact ⟨_, _, e⟩
theorem exit_map {l : List Tup} {n : Nat} {es : List Ent} {wl rest : List (Tup × Nat)} (hp : prs es = (up (U l l.length)).take n) (hU : U l l.length = wl ++ rest) (hr : rest = [] ∨ wl.length = n) (hw : wl.length ≤ n) : es.map (·.t) = wl.map (·.1) := by
  have h1 : prs es = up wl := by
    rw [hp, hU]
    have e1 : up (wl ++ rest) = up wl ++ up rest := by simp [up]
    have e2 : (up wl).length = wl.length := by simp [up]
    rw [e1]
    rcases hr with rfl | h
    · rw [show up ([] : List (Tup × Nat)) = [] from rfl, List.append_nil, List.take_of_length_le (by omega)]
    · rw [List.take_append_of_le_length (by omega), List.take_of_length_le (by omega)]
  have h2 : (prs es).map (·.1) = (up wl).map (·.1) := by rw [h1]
  simp only [prs, up, List.map_map] at h2
  exact h2
theorem neq_tup (w : World) (t : Tup) : (binOp .neq 32 t.val t.val).run Try.prog w = .ok (.bool false) w := by
  obtain ⟨a0, a1, a2, a3, a4, a5, a6, a7, a8⟩ := t
  simp [Tup.val, Tup.cs, go_sem]
theorem find_want {l : List Tup} {n j : Nat} {es : List Ent} {wl rest : List (Tup × Nat)} (hp : prs es = (up (U l l.length)).take n) (hn : (es.map (·.t)).Nodup) (hU : U l l.length = wl ++ (tl l j, j) :: rest) (hw : wl.length < n) :
    ∃ e, findE (tl l j) es = some e ∧ e.n = (j : Int) := by
  have hm : (tl l j, (j : Int)) ∈ prs es := by
    rw [hp, hU]
    have e1 : up (wl ++ (tl l j, j) :: rest) = up wl ++ (tl l j, (j : Int)) :: up rest := by simp [up]
    have e2 : (up wl).length = wl.length := by simp [up]
    rw [e1, List.take_append, List.mem_append]
    right
    have e3 : n - (up wl).length = (n - wl.length - 1) + 1 := by omega
    rw [e3, List.take_succ_cons]
    exact List.mem_cons_self
  obtain ⟨e, he, h2⟩ := List.mem_map.1 hm
  injection h2 with h3 h4
  exact ⟨e, by rw [← h3]; exact findE_mem hn he, h4⟩
set_option maxRecDepth 100000 in
theorem last_walk (room : Int) (v : Value) (l : List Tup) (w : World) (hv : TSl w v l) (hok : ∀ t ∈ l, t.ok) (hr : 0 ≤ room ∧ room ≤ 255) :
    Calls Try.prog 4 #[.int .u8 room, v] w fun e w' => e = .returned (.bool true) ∧ Gn w w' := by
  obtain ⟨o, c, rfl⟩ := hv.shape
  have HV : Hid (TSl w (.slice o l.length c) l) := hv
  have HOK : Hid (∀ t ∈ l, t.ok) := hok
  clear hv hok
  obtain ⟨n, hn⟩ : ∃ n : Nat, room.tmod 13 = (n : Int) := ⟨(room.tmod 13).toNat, by have := Int.tmod_nonneg 13 hr.1; omega⟩
  have hn13 : n < 13 := by have := Int.tmod_lt_of_pos room (show (0 : Int) < 13 by omega); omega
  by_cases hlen : l.length ≤ 60
  · go_enter Try.func4, Try.ntmps4
    go_upto_region 7 with (go_at_call 6; refine Calls.mono (new_ok _ n (by omega) (by omega)) ?_; rintro _ w1 ⟨mb, rfl, h1, h2⟩; have HM1 : Hid (Mem w1 mb (fun k => w.heap.size ≤ k ∧ k < w1.heap.size) n [] 1) := h1.bound; have HG1 : Hid (Gn w w1) := h2; clear h1 h2)
    go_wp2
    go_loopw [7] (fun i wr => ∃ (k : Nat) (es : List Ent), k ≤ l.length ∧ i = .int .i64 k ∧ Mem wr mb (fun k => w.heap.size ≤ k ∧ k < wr.heap.size) n es (k + 1) ∧ prs es = (up (U l k)).take n ∧ es.length ≤ n ∧ Gn w wr) (fun i _ => l.length - (intOf i).toNat)
    case atStart => exact ⟨0, [], by omega, rfl, HM1.out, by simp [prs, up, U], by simp, HG1.out⟩
    case round =>
      obtain ⟨k, es, hk, rfl, hM, hpr, hel, hg⟩ := hrel
      have HM : Hid (Mem wr mb (fun k => w.heap.size ≤ k ∧ k < wr.heap.size) n es (k + 1)) := hM
      have HP : Hid (prs es = (up (U l k)).take n) := hpr
      have HG : Hid (Gn w wr) := hg
      clear hM hpr hg
      by_cases hkl : k < l.length
      · obtain ⟨b, off, cap, he, hT⟩ := (HV.out.gn HG.out).row (by omega)
        cases he
        obtain ⟨d0, d1, d2, d3, d4, d5, d6, d7, d8⟩ := hT.facts hkl
        have hbl := hT.1
        have hki : (k : Int) < (l.length : Int) := by omega
        have hK : k + 1 ≤ 900 := by omega
        clear hT
        go_wp2_with (first | (go_at_call 14; refine Calls.mono (put_any wr mb _ n es (k + 1) HM.out (fun k e => e.2) hK (tl l k) (HOK.out _ (tl_mem hkl)) k) ?_; rintro _ w2 ⟨p, rfl, h1, h2⟩; have HM2 : Hid (Mem w2 mb (fun k => w.heap.size ≤ k ∧ k < w2.heap.size) n (putE n (⟨tl l k, k, p⟩ :: cutE (tl l k) es)).2.2 (k + 2)) := h1.bound.mono (fun k hk e => ⟨e.1.elim (fun e => e.1) (fun e => Nat.le_trans HG.out.size e.1), hk⟩) (Nat.le_refl _); have HG2 : Hid (Gn w w2) := ((Kp.of_gn (fun k => w.heap.size ≤ k) HG.out).trans (h2.mono (fun k _ e => e.1))).to_gn (fun k e => e); have hl2 : ((putE n (⟨tl l k, k, p⟩ :: cutE (tl l k) es)).2.2.length : Nat) ≤ n := putE_len HM.out.nodup hel; have hp2 := put_take HP.out (put_nodup (x := k) (p := p) HM.out.nodup); have HP2 : Hid (prs (putE n (⟨tl l k, k, p⟩ :: cutE (tl l k) es)).2.2 = (up (U l (k + 1))).take n) := hp2; generalize (putE n (⟨tl l k, k, p⟩ :: cutE (tl l k) es)).2.2 = es2 at *; generalize (putE n (⟨tl l k, k, p⟩ :: cutE (tl l k) es)) = pe at *; clear h1 h2 hp2; have hl3 : ¬ ((n : Int) < (es2.length : Int)) := by omega) | (go_at_call 16; refine Calls.mono (len_mem w2 mb _ n es2 (k + 2) HM2.out) ?_; rintro _ w3 ⟨rfl, rfl⟩))
        go_roundw
        case rel => exact ⟨k + 1, es2, by omega, by go_num, HM2.out, HP2.out, hl2, HG2.out⟩
        case measure => simp [intOf]; omega
      · obtain rfl : k = l.length := by omega
        obtain ⟨wo, rfl⟩ : ∃ wo : World, wo = wr := ⟨_, rfl⟩
        clear hk hkl
        go_wp2
        go_loopw [8, 9] (fun u i w3 => ∃ (j : Nat) (wl : List (Tup × Nat)), j ≤ l.length ∧ i = .int .i64 ((j : Int) - 1) ∧ TR w3 wo.heap.size u (wl.map (·.1)) ∧ U l l.length = wl ++ (U l j).filter (fun e => !decide (e.1 ∈ wl.map (·.1))) ∧ wl.length ≤ n ∧ Gn wo w3) (fun _ i _ => (intOf i + 1).toNat)
        case atStart => exact ⟨l.length, [], by omega, rfl, ⟨World.ownsRow_nil _ _ _ _, fun k e => by cases e⟩, by rw [List.nil_append]; exact (List.filter_eq_self.2 (fun e _ => by simp)).symm, by simp, Gn.refl _⟩
        case round =>
          obtain ⟨j, wl, hj, rfl, hT, hU, hwl, hg⟩ := hrel
          have hsl := own_slen hT.1
          have HT : Hid (TR wr wo.heap.size u8 (wl.map (·.1))) := hT
          have HU : Hid (U l l.length = wl ++ (U l j).filter (fun e => !decide (e.1 ∈ wl.map (·.1)))) := hU
          have HG3 : Hid (Gn wo wr) := hg
          obtain ⟨o8, c8, rfl⟩ : ∃ o c, u8 = .slice o wl.length c := by
            rcases hT.1.2 with ⟨e, h0⟩ | ⟨g, cap, _, e, _⟩
            · rw [List.length_map] at h0; exact ⟨_, _, by rw [e, h0]⟩
            · rw [List.length_map] at e; exact ⟨_, _, e⟩
          clear hT hU hg hsl
          cases j with
          | zero =>
            have hmap : es.map (·.t) = wl.map (·.1) := exit_map HP.out (by simpa [U] using HU.out) (.inl rfl) hwl
            have hel2 : es.length = wl.length := by
              have := congrArg List.length hmap
              simpa using this
            have hK1 : l.length + 1 ≤ 1000 := by omega
            go_wp2_with (first | (go_at_call 18; refine Calls.mono (list_any wr mb _ n es (l.length + 1) (HM.out.grown HG3.out) hK1) ?_; rintro _ w11 ⟨v11, rfl, h1, h2⟩; rw [hmap] at h1; obtain ⟨o11, c11, rfl⟩ := TR.shape h1; rw [List.length_map] at h1; have HT11 : Hid (TR w11 wr.heap.size (.slice o11 wl.length c11) (wl.map (·.1))) := h1; have HG11 : Hid (Gn wr w11) := h2; clear h1 h2) | (go_at_call 16; refine Calls.mono (len_mem w11 mb _ n es (l.length + 1) (HM.out.grown (HG3.out.trans HG11.out))) ?_; rintro _ w12 ⟨rfl, hw12⟩; subst hw12; rw [hel2]))
            obtain ⟨wz, rfl⟩ : ∃ wz : World, wz = w12 := ⟨_, rfl⟩
            obtain ⟨w2x, rfl⟩ : ∃ w2x : World, w2x = wr := ⟨_, rfl⟩
            go_loopw [15] (fun q w5 => ∃ k : Nat, k ≤ wl.length ∧ q = .int .i64 k ∧ Gn wz w5) (fun q _ => wl.length - (intOf q).toNat)
            case atStart => exact ⟨0, by omega, rfl, Gn.refl _⟩
            case round =>
              obtain ⟨k, hk, rfl, hg5⟩ := hrel
              have HG5 : Hid (Gn wz wr) := hg5
              clear hg5
              by_cases hkl : k < wl.length
              · have hkm : k < (wl.map (·.1)).length := by rw [List.length_map]; exact hkl
                obtain ⟨g8, cap8, he8, hg8, x0, x1, x2, x3, x4, x5, x6, x7, x8⟩ := (HT.out.gn (HG11.out.trans HG5.out)).facts hkm
                rw [List.length_map] at he8
                cases he8
                obtain ⟨g9, cap9, he9, hg9, y0, y1, y2, y3, y4, y5, y6, y7, y8⟩ := (HT11.out.gn HG5.out).facts hkm
                rw [List.length_map] at he9
                cases he9
                have hneq := fun w => neq_tup w (tl (wl.map (·.1)) k)
                simp only [Tup.val, Tup.cs] at hneq
                have hki : (k : Int) < (wl.length : Int) := by omega
                go_wp2
                refine wp_region_gr (by kernel_rfl) (by kernel_rfl) ?_
                repeat (go_big_quiet_step (fail))
                refine wpQuiet_nil ?_
                rintro _ ⟨q1, rfl⟩
                go_wp2
                go_roundw
                case rel => exact ⟨k + 1, by omega, by go_num, HG5.out.gr _⟩
                case measure => simp [intOf]; omega
              · obtain rfl : k = wl.length := by omega
                go_wp2_with (go_at_call 5; refine Calls.mono (awake_any _) ?_; rintro _ wa ⟨rfl, h1⟩; have HGa : Hid (Gn wr wa) := h1; clear h1)
                go_ret
                exact ⟨rfl, HG.out.trans (HG3.out.trans (HG11.out.trans (HG5.out.trans HGa.out)))⟩
          | succ j =>
            have hji : ((j + 1 : Nat) : Int) - 1 = (j : Int) := by omega
            rw [hji]
            by_cases hfull : wl.length < n
            · have hfi : (wl.length : Int) < (n : Int) := by omega
              go_wp2
              obtain ⟨wi, rfl⟩ : ∃ wi : World, wi = wr := ⟨_, rfl⟩
              go_loopw [10, 11] (fun s q w4 => ∃ k : Nat, k ≤ wl.length ∧ q = .int .i64 k ∧ s = .bool (decide (tl l j ∈ (wl.map (·.1)).take k)) ∧ Gn wi w4) (fun _ q _ => wl.length - (intOf q).toNat)
              case atStart => exact ⟨0, by omega, rfl, by simp, Gn.refl _⟩
              case round =>
                obtain ⟨k, hk, rfl, hs, hg4⟩ := hrel
                have HG4 : Hid (Gn wi wr) := hg4
                clear hg4
                by_cases hkl : k < wl.length
                · have hkm : k < (wl.map (·.1)).length := by rw [List.length_map]; exact hkl
                  obtain ⟨g8, cap8, he8, hg8, x0, x1, x2, x3, x4, x5, x6, x7, x8⟩ := (HT.out.gn HG4.out).facts hkm
                  rw [List.length_map] at he8
                  cases he8
                  obtain ⟨b, off, cap, he, hTC⟩ := (HV.out.gn (HG.out.trans (HG3.out.trans HG4.out))).row (by omega)
                  cases he
                  have hjl : j < l.length := by omega
                  obtain ⟨d0, d1, d2, d3, d4, d5, d6, d7, d8⟩ := hTC.facts hjl
                  have hbl := hTC.1
                  have heq := fun w => eq_tup w (tl (wl.map (·.1)) k) (tl l j)
                  have HMT : Hid (decide (tl l j ∈ (wl.map (·.1)).take (k + 1)) = (decide (tl l j ∈ (wl.map (·.1)).take k) || decide (tl (wl.map (·.1)) k = tl l j))) := mem_take hkm _
                  simp only [Tup.val, Tup.cs] at heq
                  have hki : (k : Int) < (wl.length : Int) := by omega
                  have hjli : (j : Int) < (l.length : Int) := by omega
                  clear hTC
                  obtain ⟨sb, hsb⟩ : ∃ b, decide (tl l j ∈ (wl.map (·.1)).take k) = b := ⟨_, rfl⟩
                  rw [hsb] at hs HMT
                  subst hs
                  clear hsb
                  cases sb with
                  | true =>
                    go_wp2
                    refine wp_region_gr (by kernel_rfl) (by kernel_rfl) ?_
                    repeat (go_big_quiet_step (fail))
                    refine wpQuiet_nil ?_
                    rintro _ ⟨q1, rfl⟩
                    go_wp2
                    go_roundw
                    case rel => exact ⟨k + 1, by omega, by go_num, by rw [HMT.out]; rfl, HG4.out.gr _⟩
                    case measure => simp [intOf]; omega
                  | false =>
                    go_wp2
                    refine wp_region_gr (by kernel_rfl) (by kernel_rfl) ?_
                    repeat (go_big_quiet_step (fail))
                    refine wpQuiet_nil ?_
                    rintro _ ⟨q1, rfl⟩
                    go_wp2
                    go_roundw
                    case rel => exact ⟨k + 1, by omega, by go_num, by rw [HMT.out]; rfl, HG4.out.gr _⟩
                    case measure => simp [intOf]; omega
                · obtain rfl : k = wl.length := by omega
                  have hta : (wl.map (·.1)).take wl.length = wl.map (·.1) := List.take_of_length_le (by simp)
                  rw [hta] at hs
                  subst hs
                  have hjl : j < l.length := by omega
                  by_cases hin : tl l j ∈ wl.map (·.1)
                  · have HIN : Hid (tl l j ∈ wl.map (·.1)) := hin
                    simp only [hin, decide_true]
                    clear hin
                    go_wp2
                    go_roundw
                    case rel => exact ⟨j, wl, by omega, by go_num, HT.out.gn HG4.out, by rw [HU.out, want_step_in rfl HIN.out], hwl, HG3.out.trans HG4.out⟩
                    case measure => simp [intOf]
                  · have HIN : Hid (tl l j ∉ wl.map (·.1)) := hin
                    simp only [hin, decide_false]
                    clear hin
                    have hU2 : U l l.length = wl ++ (tl l j, j) :: (U l j).filter (fun e => !decide (e.1 ∈ (wl ++ [(tl l j, j)]).map (·.1))) := by
                      rw [← want_step_out HIN.out]; exact HU.out
                    obtain ⟨e, he1, he2⟩ := find_want HP.out HM.out.nodup hU2 hfull
                    have HU2 : Hid (U l l.length = wl ++ (tl l j, j) :: (U l j).filter (fun e => !decide (e.1 ∈ (wl ++ [(tl l j, j)]).map (·.1)))) := hU2
                    have HE1 : Hid (findE (tl l j) es = some e) := he1
                    clear hU2 he1
                    obtain ⟨b, off, cap, he, hTC⟩ := (HV.out.gn (HG.out.trans (HG3.out.trans HG4.out))).row (by omega)
                    cases he
                    obtain ⟨d0, d1, d2, d3, d4, d5, d6, d7, d8⟩ := hTC.facts hjl
                    have hbl := hTC.1
                    have hjli : (j : Int) < (l.length : Int) := by omega
                    have hwi : wo.heap.size ≤ wr.heap.size := (HG3.out.trans HG4.out).size
                    have hwm : (wl.map (·.1)).length ≤ 1000 := by rw [List.length_map]; omega
                    have hbr : wr.heap.size ≤ wr.heap.size := Nat.le_refl _
                    have hK1 : l.length + 1 ≤ 1000 := by omega
                    clear hTC
                    have HV9 : Hid (∀ w9, Gn wo w9 → TC w9 b off l) := fun w9 hg9 => by
                      obtain ⟨b', off', cap', he, h9⟩ := (HV.out.gn (HG.out.trans hg9)).row (by omega)
                      cases he
                      exact h9
                    go_wp2_with (first | (at_builtin; refine wpList_append_tup rfl _ _ rfl wo.heap.size _ (wl.map (·.1)) (tl l j) rfl ((HT.out.gn HG4.out).gn ((Gn.refl _).alloc _)) rfl rfl hwi hwm ?_; intro v9 w9 h1 h2; have HT9 : Hid (TR w9 wo.heap.size v9 (wl.map (·.1) ++ [tl l j])) := h1; have HG9 : Hid (Gn wo w9) := h2 wo (Nat.le_refl _) (HG3.out.trans HG4.out); obtain ⟨d0, d1, d2, d3, d4, d5, d6, d7, d8⟩ := (HV9.out w9 HG9.out).facts hjl; have hbl9 := (HV9.out w9 HG9.out).1; clear h1 h2) | (go_at_call 10; refine Calls.mono (peek_some w9 mb _ n es (l.length + 1) (HM.out.grown HG9.out) hK1 (tl l j) (HOK.out _ (tl_mem hjl)) e HE1.out) ?_; rintro _ w10 ⟨rfl, h1⟩; rw [he2]; have HG10 : Hid (Gn w9 w10) := h1; clear h1))
                    go_roundw
                    case rel => exact ⟨j, wl ++ [(tl l j, j)], by omega, by go_num, by (have := HT9.out.gn HG10.out); simpa using this, by rw [List.append_assoc]; exact HU2.out, by simp; omega, HG9.out.trans HG10.out⟩
                    case measure => simp [intOf]
            · have hmap : es.map (·.t) = wl.map (·.1) := exit_map HP.out HU.out (.inr (by omega)) hwl
              have hfi : ¬ ((wl.length : Int) < (n : Int)) := by omega
              have hel2 : es.length = wl.length := by
                have := congrArg List.length hmap
                simpa using this
              have hK1 : l.length + 1 ≤ 1000 := by omega
              go_wp2_with (first | (go_at_call 18; refine Calls.mono (list_any wr mb _ n es (l.length + 1) (HM.out.grown HG3.out) hK1) ?_; rintro _ w11 ⟨v11, rfl, h1, h2⟩; rw [hmap] at h1; obtain ⟨o11, c11, rfl⟩ := TR.shape h1; rw [List.length_map] at h1; have HT11 : Hid (TR w11 wr.heap.size (.slice o11 wl.length c11) (wl.map (·.1))) := h1; have HG11 : Hid (Gn wr w11) := h2; clear h1 h2) | (go_at_call 16; refine Calls.mono (len_mem w11 mb _ n es (l.length + 1) (HM.out.grown (HG3.out.trans HG11.out))) ?_; rintro _ w12 ⟨rfl, hw12⟩; subst hw12; rw [hel2]))
              obtain ⟨wz, rfl⟩ : ∃ wz : World, wz = w12 := ⟨_, rfl⟩
              obtain ⟨w2x, rfl⟩ : ∃ w2x : World, w2x = wr := ⟨_, rfl⟩
              go_loopw [15] (fun q w5 => ∃ k : Nat, k ≤ wl.length ∧ q = .int .i64 k ∧ Gn wz w5) (fun q _ => wl.length - (intOf q).toNat)
              case atStart => exact ⟨0, by omega, rfl, Gn.refl _⟩
              case round =>
                obtain ⟨k, hk, rfl, hg5⟩ := hrel
                have HG5 : Hid (Gn wz wr) := hg5
                clear hg5
                by_cases hkl : k < wl.length
                · have hkm : k < (wl.map (·.1)).length := by rw [List.length_map]; exact hkl
                  obtain ⟨g8, cap8, he8, hg8, x0, x1, x2, x3, x4, x5, x6, x7, x8⟩ := (HT.out.gn (HG11.out.trans HG5.out)).facts hkm
                  rw [List.length_map] at he8
                  cases he8
                  obtain ⟨g9, cap9, he9, hg9, y0, y1, y2, y3, y4, y5, y6, y7, y8⟩ := (HT11.out.gn HG5.out).facts hkm
                  rw [List.length_map] at he9
                  cases he9
                  have hneq := fun w => neq_tup w (tl (wl.map (·.1)) k)
                  simp only [Tup.val, Tup.cs] at hneq
                  have hki : (k : Int) < (wl.length : Int) := by omega
                  go_wp2
                  refine wp_region_gr (by kernel_rfl) (by kernel_rfl) ?_
                  repeat (go_big_quiet_step (fail))
                  refine wpQuiet_nil ?_
                  rintro _ ⟨q1, rfl⟩
                  go_wp2
                  go_roundw
                  case rel => exact ⟨k + 1, by omega, by go_num, HG5.out.gr _⟩
                  case measure => simp [intOf]; omega
                · obtain rfl : k = wl.length := by omega
                  go_wp2_with (go_at_call 5; refine Calls.mono (awake_any _) ?_; rintro _ wa ⟨rfl, h1⟩; have HGa : Hid (Gn wr wa) := h1; clear h1)
                  go_ret
                  exact ⟨rfl, HG.out.trans (HG3.out.trans (HG11.out.trans (HG5.out.trans HGa.out)))⟩
  · have hg : (60 : Int) < (l.length : Int) := by omega
    go_enter Try.func4, Try.ntmps4
    go_wp2_with (go_at_call 5; refine Calls.mono (awake_any _) ?_; rintro _ w1 ⟨rfl, h1⟩; have HG1 : Hid (Gn w w1) := h1; clear h1)
    go_ret
    exact ⟨rfl, HG1.out⟩
end Go.Proofs.Ytdfhcjhhjjbpoaa
