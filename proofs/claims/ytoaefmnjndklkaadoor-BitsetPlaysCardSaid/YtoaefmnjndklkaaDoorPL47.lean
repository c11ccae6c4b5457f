/- BitsetPlays' walk. -/
import Derived.Test.YtoaefmnjndklkaaDoorGR47
import Derived.Deep.Slices
import Derived.ChangeArms
import Derived.OpenShut
import Derived.WideShapes
namespace Go.Proofs.YtoaefmnjndklkaaDoor
open Go.ChangeShapes Go.WideShapes Go.RowKit Go.Deep

theorem cells3 : Tryd.prog.cellsOf 3 = 1 := by kernel_rfl
theorem cells52 : Tryd.prog.cellsOf 52 = 2 := by kernel_rfl
theorem open_St {H : Type} {enc : TypeId × Value → H} {w : World} {base : Nat} {spare : Nat → Bool} {held : Bool} {n : Nat} {cs : List Value} {x : DataW H × List MemPlace}
    (h : DataW.trod enc Tryd.prog w base spare held n 52 cs = some x) : ∃ a b : Int, cs = [.int .i64 a, .int .i64 b] := by
  obtain ⟨xs, n', _, _, hlen, hxs, hf⟩ := DataW.trod_struct Tryd.underlying52 h
  rw [cells52] at hlen
  match cs, hlen with
  | [c0, c1], _ =>
    match xs, hxs with
    | [y0, y1], _ =>
      have f0 := hf 0 _ rfl
      have f1 := hf 1 _ rfl
      simp only [cells3, List.drop_zero, List.drop_succ_cons, List.take_succ_cons, List.take_zero, List.getElem?_cons_zero, List.getElem?_cons_succ] at f0 f1
      obtain ⟨i0, e0, _, w0⟩ := DataW.trod_int Tryd.underlying3 f0
      obtain ⟨i1, e1, _, w1⟩ := DataW.trod_int Tryd.underlying3 f1
      injection e0 with e0
      injection e1 with e1
      subst e0 e1
      exact ⟨i0, i1, rfl⟩
theorem open_ps {H : Type} {enc : TypeId × Value → H} {w : World} {b0 : Nat} {held : Bool} {r : Reach} {v : Value} {d : DataW H} {p : List MemPlace}
    (hv : Value.okWide Tryd.prog w r b0 32 v) (h : DataW.Trod enc Tryd.prog w 0 (fun _ => true) held 32 v d p) : ∃ l : List (Int × Int), PA w v l := by
  obtain ⟨o, len, cap, rfl⟩ := okWide_slice Tryd.underlying32 hv
  obtain ⟨fuel, hf⟩ := h
  rcases open_slice Tryd.underlying32 hf with ⟨h0, _⟩ | ⟨a, len', cap', m, n, D, Pl, hcs, _, hl, hm, hmm, _, hi⟩
  · simp [Value.cells] at h0
    obtain ⟨rfl, rfl, rfl⟩ := h0
    exact ⟨[], .inl ⟨_, _, rfl, rfl⟩⟩
  · simp [Value.cells] at hcs
    obtain ⟨rfl, rfl, rfl⟩ := hcs
    simp only [if_true] at hmm
    subst hmm
    rcases Nat.eq_zero_or_pos len with rfl | hpos
    · exact ⟨[], .inl ⟨_, _, rfl, rfl⟩⟩
    have each : ∀ i, i < len → ∃ b : Int × Int, w.cell? ((a.add (i * 2)).add 0) = some (.int .i64 b.1) ∧ w.cell? ((a.add (i * 2)).add 1) = some (.int .i64 b.2) := fun i hil => by
      obtain ⟨cs', hc, ht⟩ := hi i (by omega)
      rw [cells52] at hc
      obtain ⟨x, y, rfl⟩ := open_St ht
      have := (World.cells?_some hc).2.2
      exact ⟨(x, y), this 0 (by omega), this 1 (by omega)⟩
    obtain ⟨f, hF⟩ := choose_lt each
    obtain ⟨b, off, sp⟩ := a
    have hsp : sp = none := by
      have h0 := (hF 0 hpos).1
      cases sp with
      | none => rfl
      | some s =>
        simp [Addr.add, World.cell?] at h0
        split at h0 <;> simp at h0
    subst hsp
    have hadd : ∀ x j, Addr.add ⟨b, x, none⟩ j = ⟨b, x + j, none⟩ := fun x j => by unfold Addr.add; split <;> simp_all
    refine ⟨(List.range len).map f, .inr ⟨b, off, m, by simp, ?_, fun k hk => ?_⟩⟩
    · have h0 := (hF 0 hpos).1
      rw [hadd, hadd] at h0
      exact World.block_lt_of_cell? w ⟨b, _, none⟩ h0
    · simp only [List.length_map, List.length_range] at hk
      have he : pe ((List.range len).map f) k = f k := by simp [pe, hk]
      have hc := hF k hk
      simp only [hadd] at hc
      rw [he]
      exact ⟨by simpa using hc.1, hc.2⟩
theorem run_app_nil36 (w : World) (d : Nat) (ty : TypeId) : (Builtin.append_ #[36, 36] ty #[.slice none 0 0, .slice none 0 d]).run Tryd.prog w = .ok (.slice none 0 0) w := by
  obtain ⟨i0, hi0, _, _, _⟩ := info_parts info3
  simp [Builtin.append_, run_underlying Tryd.underlying36, sizeOf, typeInfo, hi0, Builtin.lenOf, Builtin.firstCells]
/-- append of all numbers of a row to nil. -/
theorem wpList_append_all {w : World} {ops : Array Oper} {rest : List Oper} {o : Oper} {a : Act} {Q : Exit → Act → World → Prop} (hgd : o.guard = none) (s x : Operand)
    (ho : o.op = .call { callee := .builtin .append, args := #[s, x], argTypes := #[36, 36] }) (v : Value) (r : List Int) (hs : a.eval s = .slice none 0 0) (hx : a.eval x = v) (hr : IR w 0 v r) (hbd : r.length ≤ 1000000)
    (h : ∀ v' w', IR w' w.heap.size v' r → Gn w w' → wpList Tryd.prog ops Q rest (a.put o.dst v') w') : wpList Tryd.prog ops Q (o :: rest) a w :=
  wpList_plain hgd fun _ hK => by
    obtain ⟨i0, hi0, hz0, hz1, hz2⟩ := info_parts info3
    have main : ∃ v' w', (Builtin.append_ #[36, 36] o.type #[.slice none 0 0, v]).run Tryd.prog w = .ok v' w' ∧ IR w' w.heap.size v' r ∧ Gn w w' := by
      rcases hr.1.2 with ⟨rfl, h0⟩ | ⟨g, cap, cur, rfl, _⟩
      · have hr0 : r = [] := List.length_eq_zero_iff.1 h0
        subst hr0
        exact ⟨_, _, run_app_nil36 w 0 _, IR.nil _ _, Gn.refl _⟩
      · have hadd : ∀ j, Addr.add ⟨g, 0, none⟩ j = ⟨g, j, none⟩ := fun j => by unfold Addr.add; split <;> simp_all
        obtain ⟨v', w', hrun, h2, h3, _, h5⟩ := run_append_own_at (P := Tryd.prog) w 0 36 o.type 3 i0 (.int .i64 0) 1 8 Tryd.underlying36 hi0 hz0 hz1 hz2 rfl (by omega) (.slice none 0 0) 0 [] (World.ownsRow_nil _ _ _ _) ⟨g, 0, none⟩ r.length cap (nus r) (by simp [nus])
          (fun j u hu => by
            have hj : j < r.length := by
              rcases Nat.lt_or_ge j r.length with h | h
              · exact h
              · rw [List.getElem?_eq_none (by simp [nus]; omega)] at hu; cases hu
            rw [hadd, hr.1.cellAt j (by omega)]
            exact hu) (one_nus r) (by unfold maxLen; omega) (by omega) (Nat.zero_le _)
        refine ⟨v', w', hrun, ⟨?_, fun k e => ?_⟩, (Gn.refl w).grown h3 (fun k e => by cases e)⟩
        · rw [Nat.zero_add, List.nil_append] at h2; exact h2
        · rcases h5 with h5 | h5
          · rw [h5] at e; cases e
          · rw [h5] at e; cases e; exact Nat.le_refl _
    obtain ⟨v', w', hrun, h2, h3⟩ := main
    have hh := hK _ _ (h v' w' h2 h3)
    unfold Oper.wp execOp
    simp only [ho, resolve, invoke, builtin, Sem.run_bind, Sem.run_pure, Result.andThen_ok, List.map_toArray, List.map_cons, List.map_nil, hs, hx, hrun]
    exact hh
/-- k of the numbers ns put into m. -/
def zz (m : Nat → Bool) (N : Nat) (ns : List Int) : Nat → Nat → Bool
  | 0 => m
  | k + 1 => pmm (zz m N ns k) N (il ns k)
theorem zz_zero {m : Nat → Bool} {N : Nat} {ns : List Int} : zz m N ns 0 = m := rfl
theorem zz_mem {m : Nat → Bool} {N : Nat} {ns : List Int} : ∀ {k : Nat}, k ≤ ns.length → ∀ j, j < N → zz m N ns k j = (m j || decide ((j : Int) ∈ ns.take k))
  | 0, _, j, _ => by simp [zz]
  | k + 1, hk, j, hj => by
    rw [take_il (by omega)]
    show pmm (zz m N ns k) N (il ns k) j = _
    unfold pmm
    rw [zz_mem (by omega) j hj]
    by_cases h1 : (j : Int) ∈ ns.take k
    · simp [h1]
    · by_cases h2 : (j : Int) = il ns k
      · simp [h1, h2, hj]
      · simp [h1, h2]
theorem zz_end {m n : Nat → Bool} {N : Nat} : nums (zz m N (nums n N) (nums n N).length) N = nums (mb29 m n) N := by
  apply nums_congr
  intro j hj
  rw [zz_mem (Nat.le_refl _) j hj, List.take_length]
  unfold mb29
  congr 1
  rw [Bool.eq_iff_iff]
  simp only [decide_eq_true_eq, nums_mem]
  constructor
  · rintro ⟨_, _, h⟩; simpa using h
  · intro h; exact ⟨by omega, by omega, by simpa using h⟩
theorem zz_bound {m : Nat → Bool} {N : Nat} {ns : List Int} (hb : ∀ j, m j = true → j < N) : ∀ {k : Nat}, ∀ j, zz m N ns k j = true → j < N
  | 0, j, h => hb j h
  | k + 1, j, h => pmm_bound (zz_bound hb) j h
/-- A row of a reference's set, as it lies. -/
theorem RS.row {w : World} {xb N : Nat} {P : Nat → Prop} {l : List Int} (h : RS w xb P N l) : ∃ v, (∀ w', Gn w w' → w'.cell? ⟨xb, 1, none⟩ = some v ∧ IR w' 0 v l) ∧ ∃ o c, v = .slice o l.length c := by
  obtain ⟨o, c, _, c1, hr⟩ := h.cells
  exact ⟨_, fun w' hg => ⟨gn_cell hg c1, hr.gn hg⟩, o, c, rfl⟩
end Go.Proofs.YtoaefmnjndklkaaDoor
