/- List. -/
import Derived.Test.YtdfhcjhhjjbpoaaF52
namespace Go.Proofs.Ytdfhcjhhjjbpoaa
open Go.RowKit

def Z9 : Array Value := #[.int .i64 0, .bool false, .int .u64 0, .int .u64 0, .bool false, .int .u64 0, .int .u64 0, .int .i64 0, .int .i64 0]
theorem info32 : (Try.prog.info? 32).map (fun i => (i.zero, i.size, i.bytes)) = some (some (.agg Z9), 9, 72) := by kernel_rfl
/-- The cells of tuples. -/
def tcs (l : List Tup) : List Value := l.flatMap fun t => t.cs.toList
theorem tcs_len (l : List Tup) : (tcs l).length = l.length * 9 := by
  induction l with
  | nil => rfl
  | cons t l ih =>
    have : tcs (t :: l) = t.cs.toList ++ tcs l := rfl
    rw [this, List.length_append, ih, List.length_cons]
    have : t.cs.toList.length = 9 := rfl
    omega
def slen : Value → Nat
  | .slice _ n _ => n
  | _ => 0
theorem own_slen {w : World} {base : Nat} {e : TypeId} {size : Nat} {v : Value} {n : Nat} {xs : List Value} (h : w.ownsRow base e size v n xs) : slen v = n := by
  rcases h with ⟨_, ⟨rfl, h2⟩ | ⟨g, cap, _, rfl, _⟩⟩
  · exact h2.symm
  · rfl
theorem one_cs (t : Tup) : ∀ u ∈ t.cs.toList, u.oneCell' = true := by
  intro u hu
  simp only [Tup.cs, List.mem_cons, List.not_mem_nil, or_false] at hu
  rcases hu with rfl | rfl | rfl | rfl | rfl | rfl | rfl | rfl | rfl <;> rfl
theorem brow (w : World) (t : Tup) (k : Nat) (hk : k < 9) : (w.alloc (.cells t.cs 32)).cell? ⟨w.heap.size, k, none⟩ = t.cs.toList[k]? := by
  unfold World.cell?
  rw [heap_alloc_new]
  simp
theorem own_gn {w w' : World} {base : Nat} {e : TypeId} {size : Nat} {v : Value} {n : Nat} {xs : List Value} (h : w.ownsRow base e size v n xs) (hg : Gn w w') : w'.ownsRow base e size v n xs :=
  own_kp h (Kp.of_gn (fun _ => False) hg) (fun _ _ e => e)
/-- v is a row of tuples, in blocks from base on. -/
def TR (w : World) (base : Nat) (v : Value) (l : List Tup) : Prop := w.ownsRow 0 32 9 v l.length (tcs l) ∧ ∀ k, v.ownBlock = some k → base ≤ k
theorem TR.gn {w w' : World} {base : Nat} {v : Value} {l : List Tup} (h : TR w base v l) (hg : Gn w w') : TR w' base v l := ⟨own_gn h.1 hg, h.2⟩
/-- append of one tuple. -/
theorem wpList_append_tup {w : World} {ops : Array Oper} {rest : List Oper} {o : Oper} {a : Act} {Q : Exit → Act → World → Prop} (hgd : o.guard = none) (s x : Operand)
    (ho : o.op = .call { callee := .builtin .append, args := #[s, x], argTypes := #[45, 45] }) {w0 : World} (base : Nat) (v : Value) (l : List Tup) (t : Tup) (hs : a.eval s = v) (hown : TR w base v l) (hw : w0.alloc (.cells t.cs 32) = w) (hx : a.eval x = .slice (some ⟨w0.heap.size, 0, none⟩) 1 1) (hb : base ≤ w0.heap.size) (hbd : l.length ≤ 1000)
    (h : ∀ v' w', TR w' base v' (l ++ [t]) → (∀ b, b.heap.size ≤ base → Gn b w0 → Gn b w') → wpList Try.prog ops Q rest (a.put o.dst v') w') : wpList Try.prog ops Q (o :: rest) a w := by
  subst hw
  refine wpList_append_row hgd s x 45 32 (.agg Z9) 9 72 Try.underlying45 info32 rfl (by omega) ho v l.length (tcs l) hs hown.1 w0.heap.size t.cs.toList hx rfl (brow w0 t) (one_cs t) (by omega) (by omega) ?_
  intro v' w' h1 h2 h3
  refine h v' w' ⟨?_, ?_⟩ (fun b hbb hgn => (hgn.alloc _).grown h2 (fun k e => Nat.le_trans hbb (hown.2 k e)))
  · have e1 : (l ++ [t]).length = l.length + 1 := by simp
    have e2 : tcs (l ++ [t]) = tcs l ++ t.cs.toList := by simp [tcs]
    rw [e1, e2]; exact h1
  · intro k e
    rcases h3 with h3 | h3
    · rw [h3] at e; exact hown.2 k e
    · rw [h3, size_alloc] at e; cases e; omega
theorem given_eq (w : World) (mb r : Nat) (hm : w.cell? ⟨mb, 1, none⟩ = some (.map (some r))) :
    Calls Try.prog 21 #[.pointer (some ⟨mb, 0, none⟩)] w fun e w' => e = .returned (.bool true) ∧ w = w' := (given_any w mb r 0 hm).mono fun _ _ h => ⟨h.1, h.2.symm⟩
theorem list_any (w : World) (mb : Nat) (A : Nat → Prop) (room : Int) (es : List Ent) (K : Nat) (h : Mem w mb A room es K) (hK : K ≤ 1000) :
    Calls Try.prog 18 #[.pointer (some ⟨mb, 0, none⟩)] w fun e w' => ∃ v, e = .returned v ∧ TR w' w.heap.size v (es.map (·.t)) ∧ Gn w w' := by
  obtain ⟨r, g, n, cap, fv, fr, tu, nu, ah, bk, hM, hL, hP, hI, hn⟩ := h
  have c1 := hM.c1
  have c2 := hM.c2
  have hmb := hM.lt
  have hgl := hL.lt
  have hcp := hL.cap_le
  have hz : 0 < n := by have := hI.sz; omega
  have a0 := hL.back hz
  rw [Nat.zero_mul, Nat.zero_add] at a0
  have HL : Hid (Links w g n cap tu nu ah bk) := hL
  have HI : Hid (Inv n tu nu ah bk es fr) := hI
  have hen : es.length < n := by have := hI.sz; omega
  clear hM hL hP hI
  go_enter Try.func18, Try.ntmps18
  go_wp2_with (go_at_call 21; refine Calls.mono (given_eq _ mb r c1) ?_; rintro _ _ ⟨rfl, rfl⟩)
  go_loopw [3, 4] (fun u i wr => ∃ xs ys a, es = xs ++ ys ∧ chain bk ah a (ys.map (·.p)) 0 ∧ i = .int .i64 (bk a : Nat) ∧ TR wr w.heap.size u (xs.map (·.t)) ∧ Gn w wr) (fun u _ _ => es.length - slen u)
  case atStart => exact ⟨[], es, 0, rfl, HI.out.ring, rfl, ⟨World.ownsRow_nil _ _ _ _, fun k e => by cases e⟩, Gn.refl _⟩
  case round =>
    obtain ⟨xs, ys, a, hes, hch, rfl, hT, hg⟩ := hrel
    have hsl := own_slen hT.1
    rw [List.length_map] at hsl
    have HT : Hid (TR wr w.heap.size u3 (xs.map (·.t))) := hT
    have HG : Hid (Gn w wr) := hg
    have hws := hg.size
    have HC : Hid (chain bk ah a (ys.map (·.p)) 0) := hch
    have HE : Hid (es = xs ++ ys) := hes
    have hxs : xs.length ≤ es.length := by rw [hes]; simp
    clear hT hg hch
    cases ys with
    | nil =>
      have hb0 : bk a = 0 := HC.out.1
      rw [List.append_nil] at hes
      subst hes
      obtain ⟨z, hz0⟩ : ∃ z : Int, ((bk a : Nat) : Int) = z := ⟨_, rfl⟩
      have hz1 : z = 0 := by omega
      simp only [hz0, hz1]
      go_wp2
      go_ret
      exact ⟨_, rfl, HT.out, HG.out⟩
    | cons e ys =>
      have hbe : bk a = e.p := HC.out.1
      have hem : e ∈ es := by rw [hes]; simp
      have hep : e.p < n := HI.out.lt _ (List.mem_append_left _ (List.mem_map.2 ⟨e, hem, rfl⟩))
      have he0 : e.p ≠ 0 := by
        intro h0
        have := (List.nodup_cons.1 HI.out.nd).1
        exact this (List.mem_append_left _ (List.mem_map.2 ⟨e, hem, h0⟩))
      have het : tu e.p = e.t := (HI.out.cells e hem).1
      have hxy : xs.length + 1 ≤ es.length := by rw [hes]; simp
      have hL6 : Links wr g n cap tu nu ah bk := HL.out.kept (Kp.of_gn (fun _ => False) HG.out) (fun e => e)
      have d0 := hL6.tup hep (j := 0) (by omega)
      have d1 := hL6.tup hep (j := 1) (by omega)
      have d2 := hL6.tup hep (j := 2) (by omega)
      have d3 := hL6.tup hep (j := 3) (by omega)
      have d4 := hL6.tup hep (j := 4) (by omega)
      have d5 := hL6.tup hep (j := 5) (by omega)
      have d6 := hL6.tup hep (j := 6) (by omega)
      have d7 := hL6.tup hep (j := 7) (by omega)
      have d8 := hL6.tup hep (j := 8) (by omega)
      rw [het] at d0 d1 d2 d3 d4 d5 d6 d7 d8
      simp only [Nat.add_zero, Tup.cs] at d0 d1 d2 d3 d4 d5 d6 d7 d8
      simp at d0 d1 d2 d3 d4 d5 d6 d7 d8
      have c2r := gn_cell HG.out c2
      have hLb := HL.out.back hep
      have hgr : g < wr.heap.size := by omega
      have hmr : mb < wr.heap.size := by omega
      rw [hbe]
      clear hL6 hbe het hem hes
      go_wp2_with (at_builtin; refine wpList_append_tup rfl _ _ rfl w.heap.size _ (xs.map (·.t)) e.t rfl (HT.out.gn ((Gn.refl _).alloc _)) rfl rfl hws (by rw [List.length_map]; omega) ?_; intro v2 w2 h1 h2; have H1 : Hid (TR w2 w.heap.size v2 (xs.map (·.t) ++ [e.t])) := h1; have HG2 : Hid (Gn w w2) := h2 w (Nat.le_refl _) HG.out; have c2s := gn_cell HG2.out c2; have b2 := gn_cell HG2.out hLb; clear h1 h2)
      go_roundw
      case rel => exact ⟨xs ++ [e], ys, e.p, by rw [HE.out]; simp, HC.out.2.2, rfl, by rw [List.map_append]; exact H1.out, HG2.out⟩
      case measure =>
        have hs2 := own_slen H1.out.1
        simp at hs2 ⊢
        omega
end Go.Proofs.Ytdfhcjhhjjbpoaa
