/- A region that draws its order, whose operations but the last only read or make memory; the last one may write. No condition. -/
import Derived.Test.YtoaefmnjndklkaaDoorGr
namespace Go.Proofs.YtoaefmnjndklkaaDoor
open Go.RowKit

/-- One operation that yields the same value in every world that has grown from w0, and leaves that world or one that has grown from it. -/
def _root_.Go.Oper.qg (P : Program) (o : Oper) (a : Act) (w0 : World) (K : Act → Prop) : Prop :=
  ∃ v, (∀ p : Gr, Oper.quietUpon P (fun w'' => ∃ q : Gr, w'' = (w0.gr p).gr q) (w0.gr p) v ((execOp a.eval o).run P (w0.gr p))) ∧ K (a.put o.dst v)
attribute [go_sem] Oper.qg

/-- The first m operations of a list, in its order. -/
def wpQG (P : Program) (ops : Array Oper) (w0 : World) (Q : Act → Prop) : Nat → List Oper → Act → Prop
  | 0, _, a => Q a
  | _ + 1, [], a => Q a
  | m + 1, o :: rest, a => if Region.wanted o (yielded ops a.tmps) then o.qg P a w0 (wpQG P ops w0 Q m rest) else wpQG P ops w0 Q m rest (a.put o.dst undef)

section
variable {P : Program} {ops : Array Oper} {md : Region.Mode} {w0 : World} {z : Nat}
theorem wpQG_done {Q : Act → Prop} {l : List Oper} {a : Act} (h : Q a) : wpQG P ops w0 Q 0 l a := h
theorem wpQG_step {Q : Act → Prop} {a : Act} {o : Oper} {rest : List Oper} {m : Nat}
    (h : ∀ K : Act → Prop, (∀ a, wpQG P ops w0 Q m rest a → K a) → if Region.wanted o (yielded ops a.tmps) then o.qg P a w0 K else K (a.put o.dst undef)) : wpQG P ops w0 Q (m + 1) (o :: rest) a :=
  h _ (fun _ h => h)

/-- In state a operation o yields v, in every world that has grown from w0. -/
def YieldsG (P : Program) (ops : Array Oper) (w0 : World) (o : Oper) (v : Value) (a : Act) : Prop :=
  (Region.wanted o (yielded ops a.tmps) = true ∧ ∀ p : Gr, Oper.quietUpon P (fun w'' => ∃ q : Gr, w'' = (w0.gr p).gr q) (w0.gr p) v ((execOp a.eval o).run P (w0.gr p))) ∨
  (Region.wanted o (yielded ops a.tmps) = false ∧ v = undef)

theorem YieldsG.of_same {o : Oper} {v : Value} {a a' : Act} (hy : YieldsG P ops w0 o v a) (he : execOp a'.eval o = execOp a.eval o)
    (hw : Region.wanted o (yielded ops a'.tmps) = Region.wanted o (yielded ops a.tmps)) : YieldsG P ops w0 o v a' := by
  unfold YieldsG at *
  rw [he, hw]
  exact hy

/-- Operation number i comes up, and does not panic. -/
def mOp (P : Program) (ops : Array Oper) (i : Nat) (K : Act → World → Prop) (a : Act) (w : World) : Prop :=
  match ops[i]? with
  | none => K a w
  | some o => if Region.wanted o (yielded ops a.tmps) then o.wp P a w K (fun _ _ _ => False) else K (a.put o.dst undef) w

theorem wp_mono2 {o : Oper} {a : Act} {w : World} {K K' : Act → World → Prop} {Q' : Exit → Act → World → Prop} (h : ∀ a w, K a w → K' a w)
    (hh : o.wp P a w K (fun _ _ _ => False)) : o.wp P a w K' Q' := by
  unfold Oper.wp at *
  generalize (execOp a.eval o).run P w = r at *
  cases r with
  | ok n w' =>
    cases n <;> simp only [Oper.upon] at hh ⊢ <;>
      first
        | exact h _ _ hh
        | exact Calls.mono hh (fun e w'' he => by cases e <;> first | exact h _ _ he | exact he.elim | exact (he.elim fun _ h => h.elim fun _ h => h.elim))
        | exact Rows.mono hh (fun _ _ he => h _ _ he)
  | halt x w' => cases x <;> simp only [Oper.upon] at hh ⊢ <;> exact hh.elim

theorem mOp_mono {i : Nat} {a : Act} {w : World} {K K' : Act → World → Prop} (h : ∀ a w, K a w → K' a w) (hh : mOp P ops i K a w) : mOp P ops i K' a w := by
  unfold mOp at *
  split
  · exact h _ _ (by simpa [*] using hh)
  · rename_i o ho
    simp only [ho] at hh
    split
    · rename_i hw; simp only [hw, if_true] at hh; exact wp_mono2 h hh
    · rename_i hw; simp only [hw] at hh; exact h _ _ hh

theorem wpOp_of_mOp {i : Nat} {a : Act} {w : World} {K K' : Act → World → Prop} {Q' : Exit → Act → World → Prop} (h : ∀ a w, K a w → K' a w) (hh : mOp P ops i K a w) : wpOp P ops Q' i K' a w := by
  unfold mOp at hh
  unfold wpOp
  split
  · rename_i ho; simp only [ho] at hh; exact h _ _ hh
  · rename_i o ho
    simp only [ho] at hh
    split
    · rename_i hw; simp only [hw, if_true] at hh; exact .inl (wp_mono2 h hh)
    · rename_i hw; simp only [hw] at hh; exact h _ _ hh

/-- Whatever order is picked from here on; the world may grow ahead of each operation. -/
def wpMix (P : Program) (md : Region.Mode) (ops : Array Oper) (w0 : World) (z : Nat) (Q : Act → World → Prop) : Nat → Array Bool → Act → World → Prop
  | 0, listed, a, w => Region.ready md ops listed = [] ∧ ∀ w', Gn w w' → Q a w'
  | fuel + 1, listed, a, w =>
    (Region.ready md ops listed = [] → ∀ w', Gn w w' → Q a w') ∧
    ∀ i ∈ Region.ready md ops listed, ∀ w', Gn w w' → mOp P ops i (fun a'' w'' => (i = z ∨ Gn w0 w'') ∧ wpMix P md ops w0 z Q fuel (listed.setIfInBounds i true) a'' w'') a w'

theorem wpMix_grow {Q : Act → World → Prop} : ∀ {fuel : Nat} {listed : Array Bool} {a : Act} {w w1 : World}, wpMix P md ops w0 z Q fuel listed a w → Gn w w1 → wpMix P md ops w0 z Q fuel listed a w1
  | 0, _, _, _, _, h, hg => ⟨h.1, fun w' hw => h.2 w' (hg.trans hw)⟩
  | _ + 1, _, _, _, _, h, hg => ⟨fun h0 w' hw => h.1 h0 w' (hg.trans hw), fun i hi w' hw => h.2 i hi w' (hg.trans hw)⟩

theorem wpAny_of_mix {Q : Act → World → Prop} {Q' : Exit → Act → World → Prop} (hQ : ∀ a w, Q a w → Q' .normal a w) : ∀ (fuel : Nat) (listed : Array Bool) (a : Act) (w : World),
    wpMix P md ops w0 z Q fuel listed a w → wpAny P md ops Q' fuel listed a w
  | 0, _, _, w, h => ⟨h.1, hQ _ _ (h.2 w (Gn.refl w))⟩
  | fuel + 1, _, _, w, h => ⟨fun h0 => hQ _ _ (h.1 h0 w (Gn.refl w)), fun i hi => wpOp_of_mOp (fun a' w' hw => wpAny_of_mix hQ fuel _ a' w' hw.2) (h.2 i hi w (Gn.refl w))⟩

/-- A quiet operation, run in a world that has grown from w0. -/
theorem YieldsG.mOp {i : Nat} {o : Oper} {v : Value} {a : Act} {w : World} (hi : ops[i]? = some o) (hy : YieldsG P ops w0 o v a) (hw : Gn w0 w) {K : Act → World → Prop}
    (h : ∀ w', Gn w w' → K (a.put o.dst v) w') : mOp P ops i K a w := by
  unfold Go.Proofs.YtoaefmnjndklkaaDoor.mOp
  simp only [hi]
  obtain ⟨p, rfl⟩ := hw
  rcases hy with ⟨hwt, hv⟩ | ⟨hwt, rfl⟩
  · simp only [hwt, if_true]
    have h1 := hv p
    unfold Oper.wp
    generalize (execOp a.eval o).run P (w0.gr p) = r at *
    cases r with
    | ok n w' =>
      cases n <;> simp only [Oper.quietUpon] at h1 <;> simp only [Oper.upon]
      case value u => obtain ⟨rfl, rfl⟩ := h1; exact h _ (Gn.refl _)
      case skip => obtain ⟨rfl, rfl⟩ := h1; exact h _ (Gn.refl _)
      case enter f args =>
        obtain ⟨rfl, hc⟩ := h1
        exact hc.mono fun e w'' ⟨he, hq⟩ => by subst he; exact h _ hq
    | halt x w' => simp only [Oper.quietUpon] at h1
  · simp only [hwt, Bool.false_eq_true, if_false]
    exact h _ (Gn.refl _)

/-- One other operation, apart from the quiet one: whether the quiet one's value lies there already makes no difference. -/
theorem mOp_put {j : Nat} {oi oj : Oper} {v : Value} (hj : ops[j]? = some oj) (hap : oi.apart ops oj = true)
    (hsi : ∀ cs b, oi.op ≠ .select cs b) (hsj : ∀ cs b, oj.op ≠ .select cs b) {K : Act → World → Prop} {a : Act} {w : World}
    (hy : YieldsG P ops w0 oi v a) (h : mOp P ops j K (a.put oi.dst v) w) :
    mOp P ops j (fun a' w' => YieldsG P ops w0 oi v a' ∧ K (a'.put oi.dst v) w') a w := by
  obtain ⟨h1, h2, h3⟩ := Oper.apart_spec hap
  have keep : ∀ (a : Act), YieldsG P ops w0 oi v a → ∀ u, YieldsG P ops w0 oi v (a.put oj.dst u) := fun a hy u =>
    hy.of_same (execOp_put oi hsi a oj.dst u h3) (wanted_put oi a oj.dst u h3)
  unfold mOp at *
  simp only [hj] at *
  rw [wanted_put oj a oi.dst v h1] at h
  split
  · rename_i hw
    simp only [hw, if_true] at h
    unfold Oper.wp at *
    rw [execOp_put oj hsj a oi.dst v h1] at h
    generalize (execOp a.eval oj).run P w = r at *
    cases r with
    | ok n w' =>
      cases n <;> simp only [Oper.upon] at h ⊢
      case value u => exact ⟨keep a hy u, by rw [← Act.put_comm a v u h2]; exact h⟩
      case skip => exact ⟨keep a hy _, by rw [← Act.put_comm a v undef h2]; exact h⟩
      case defer d =>
        refine ⟨?_, ?_⟩
        · have hk := keep { a with defers := d :: a.defers } (hy.of_same (by congr 1) rfl) undef
          exact hk
        · rw [Act.put_defers, Act.put_comm _ v undef h2] at h
          exact h
      case enter f args => exact h.mono fun e w'' he => (by cases e <;> first | exact he | exact ⟨keep a hy _, by rw [← Act.put_comm a v _ h2]; exact he⟩)
      case row r args => exact h.mono fun u w'' he => ⟨keep a hy u, by rw [← Act.put_comm a v u h2]; exact he⟩
    | halt x w' => cases x <;> simp only [Oper.upon] at h
  · rename_i hw
    simp only [hw] at h
    exact ⟨keep a hy _, by rw [← Act.put_comm a v undef h2]; exact h⟩

theorem wpMix_first {Q : Act → World → Prop} {i : Nat} {oi : Oper} {v : Value} (hz : ∀ oz, ops[z]? = some oz → ∃ e ∈ oz.after, Region.binds md e = true ∧ e.on = i) (hi : ops[i]? = some oi) (hsel : ∀ (j : Nat) (o : Oper) cs b, ops[j]? = some o → o.op ≠ .select cs b) :
    ∀ (fuel : Nat) (listed : Array Bool) (a : Act) (w : World),
      (∀ j oj, ops[j]? = some oj → j ≠ i → listed.getD j true = false → (∀ e ∈ oj.after, Region.binds md e = true → e.on ≠ i) → oi.apart ops oj = true) →
      i ∈ Region.ready md ops listed → Gn w0 w → YieldsG P ops w0 oi v a →
      wpMix P md ops w0 z Q fuel (listed.setIfInBounds i true) (a.put oi.dst v) w → wpMix P md ops w0 z Q (fuel + 1) listed a w := by
  intro fuel
  induction fuel with
  | zero =>
    intro listed a w _ hr hw hy H
    refine ⟨fun h => (by rw [h] at hr; cases hr), fun j hj w' hw' => ?_⟩
    by_cases hji : j = i
    · subst hji
      exact hy.mOp hi (hw.trans hw') fun w'' hg => ⟨.inr ((hw.trans hw').trans hg), wpMix_grow H (hw'.trans hg)⟩
    · have := ready_mono hj hji
      rw [H.1] at this
      cases this
  | succ fuel ih =>
    intro listed a w hfree hr hw hy H
    refine ⟨fun h => (by rw [h] at hr; cases hr), fun j hj w' hw' => ?_⟩
    by_cases hji : j = i
    · subst hji
      exact hy.mOp hi (hw.trans hw') fun w'' hg => ⟨.inr ((hw.trans hw').trans hg), wpMix_grow H (hw'.trans hg)⟩
    · have h1 := H.2 j (ready_mono hj hji) w' hw'
      obtain ⟨hjun, oj, hoj, hall⟩ := mem_ready.1 hj
      have hnot : ∀ e ∈ oj.after, Region.binds md e = true → e.on ≠ i := fun e he hb heq => by
        have h1 := hall e he hb
        have h0 := (mem_ready.1 hr).1
        rw [heq] at h1
        rcases Nat.lt_or_ge i listed.size with h' | h'
        · simp [h'] at h0 h1; rw [h0] at h1; cases h1
        · simp [Array.getElem?_eq_none h'] at h1
      have hjz : j ≠ z := fun e => by
        subst e
        obtain ⟨e', he', hb, ho⟩ := hz oj hoj
        exact hnot e' he' hb ho
      have h2 := mOp_put hoj (hfree j oj hoj hji hjun hnot) (fun cs b => hsel i oi cs b hi) (fun cs b => hsel j oj cs b hoj) hy h1
      have hfree' : ∀ k ok, ops[k]? = some ok → k ≠ i → (listed.setIfInBounds j true).getD k true = false →
          (∀ e ∈ ok.after, Region.binds md e = true → e.on ≠ i) → oi.apart ops ok = true := fun k ok hk hki hun hno => by
        refine hfree k ok hk hki ?_ hno
        by_cases hjk : j = k
        · subst hjk; exact hjun
        · rw [getD_set_ne true hjk] at hun; exact hun
      refine mOp_mono (fun a' w'' h3 => ⟨.inr (h3.2.1.resolve_left hjz), ih (listed.setIfInBounds j true) a' w'' hfree' (ready_mono hr (Ne.symm hji)) (h3.2.1.resolve_left hjz) h3.1 ?_⟩) h2
      rw [Array.setIfInBounds_comm _ _ hji]
      exact h3.2.2

theorem yieldsG_of {o : Oper} {a : Act} {K : Act → Prop} (h : if Region.wanted o (yielded ops a.tmps) then o.qg P a w0 K else K (a.put o.dst undef)) : ∃ v, YieldsG P ops w0 o v a ∧ K (a.put o.dst v) := by
  by_cases hw : Region.wanted o (yielded ops a.tmps) = true
  · rw [if_pos hw] at h
    obtain ⟨v, h1, h2⟩ := h
    exact ⟨v, .inl ⟨hw, h1⟩, h2⟩
  · rw [if_neg hw] at h
    exact ⟨undef, .inr ⟨by simpa using hw, rfl⟩, h⟩

/-- Operation z waits for operation i. -/
def waits (md : Region.Mode) (ops : Array Oper) (z i : Nat) : Bool := match ops[z]? with
  | some o => o.after.any fun e => Region.binds md e && e.on == i
  | none => true
theorem waits_spec {md : Region.Mode} {ops : Array Oper} {z i : Nat} (h : waits md ops z i = true) : ∀ oz, ops[z]? = some oz → ∃ e ∈ oz.after, Region.binds md e = true ∧ e.on = i := by
  intro oz ho
  unfold waits at h
  rw [ho] at h
  simp only [Array.any_eq_true', Bool.and_eq_true, beq_iff_eq] at h
  obtain ⟨e, h1, h2, h3⟩ := h
  exact ⟨e, h1, h2, h3⟩
/-- An operation that is apart from all others, taken now. -/
theorem wpMix_pick {Q : Act → World → Prop} (i : Nat) {o : Oper} {fuel : Nat} {listed : Array Bool} {a : Act} {w : World} (hs : Region.noSelect ops = true) (ho : ops[i]? = some o)
    (hr : ((Region.ready md ops listed).contains i && Region.free md ops listed i) = true) (hw : Gn w0 w) (hzi : waits md ops z i = true)
    (h : ∀ K : Act → Prop, (∀ a, wpMix P md ops w0 z Q fuel (listed.setIfInBounds i true) a w → K a) → if Region.wanted o (yielded ops a.tmps) then o.qg P a w0 K else K (a.put o.dst undef)) :
    wpMix P md ops w0 z Q (fuel + 1) listed a w := by
  simp only [Bool.and_eq_true] at hr
  obtain ⟨v, hy, hK⟩ := yieldsG_of (h _ (fun _ h => h))
  exact wpMix_first (waits_spec hzi) ho (Region.noSelect_spec hs) fuel listed a w (Region.free_spec ho hr.2) (by simpa using hr.1) hw hy hK

/-! ### The rest: in whatever order -/
theorem mOp_of_list {Q : Act → World → Prop} {i : Nat} {o : Oper} {a : Act} {w : World} (ho : ops[i]? = some o) (h : wpList P ops (fun e a' w' => e = .normal ∧ Q a' w') [o] a w)
    : mOp P ops i Q a w := by
  unfold mOp
  simp only [ho]
  unfold wpList at h
  split at h
  · rename_i hw
    rw [if_pos hw]
    rcases h with h | ⟨_, a₁, w₁, h, _⟩
    · unfold Oper.wp at *
      generalize (execOp a.eval o).run P w = r at *
      cases r with
      | ok n w' =>
        cases n <;> simp only [Oper.upon] at h ⊢
        case value u => exact h.2
        case skip => exact h.2
        case defer d => exact h.2
        case enter f args =>
          refine h.mono fun e w'' he => ?_
          cases e with
          | returned u => exact he.2
          | panicked c => cases he.1
          | outgrown => obtain ⟨_, _, he⟩ := he; cases he.1
        case row r args => exact h.mono fun u w'' he => he.2
      | halt x w' => cases x <;> simp only [Oper.upon] at h <;> first | exact h.elim | cases h.1
    · cases h
  · rename_i hw
    rw [if_neg hw]
    exact h.2

theorem wpMix_one {Q : Act → World → Prop} {fuel i : Nat} {o : Oper} {listed : Array Bool} {a : Act} {w : World} (hr : Region.ready md ops listed = [i]) (ho : ops[i]? = some o)
    (h : ∀ p : Gr, wpList P ops (fun e a' w' => e = .normal ∧ (i = z ∨ Gn w0 w') ∧ wpMix P md ops w0 z Q fuel (listed.setIfInBounds i true) a' w') [o] a (w.gr p)) : wpMix P md ops w0 z Q (fuel + 1) listed a w := by
  refine ⟨fun e => (by rw [hr] at e; cases e), fun j hj w' hg => ?_⟩
  rw [hr] at hj
  obtain rfl : j = i := by simpa using hj
  obtain ⟨p, rfl⟩ := hg
  exact mOp_of_list ho (h p)
theorem wpMix_two {Q : Act → World → Prop} {fuel i j : Nat} {o o' : Oper} {listed : Array Bool} {a : Act} {w : World} (hr : Region.ready md ops listed = [i, j]) (ho : ops[i]? = some o) (ho' : ops[j]? = some o')
    (h : ∀ p : Gr, wpList P ops (fun e a' w' => e = .normal ∧ (i = z ∨ Gn w0 w') ∧ wpMix P md ops w0 z Q fuel (listed.setIfInBounds i true) a' w') [o] a (w.gr p))
    (h' : ∀ p : Gr, wpList P ops (fun e a' w' => e = .normal ∧ (j = z ∨ Gn w0 w') ∧ wpMix P md ops w0 z Q fuel (listed.setIfInBounds j true) a' w') [o'] a (w.gr p)) : wpMix P md ops w0 z Q (fuel + 1) listed a w := by
  refine ⟨fun e => (by rw [hr] at e; cases e), fun k hk w' hg => ?_⟩
  rw [hr] at hk
  obtain ⟨p, rfl⟩ := hg
  rcases List.mem_cons.1 hk with rfl | hk
  · exact mOp_of_list ho (h p)
  · obtain rfl : k = j := by simpa using hk
    exact mOp_of_list ho' (h' p)
theorem wpMix_done {Q : Act → World → Prop} {fuel : Nat} {listed : Array Bool} {a : Act} {w : World} (hr : Region.ready md ops listed = []) (h : ∀ p : Gr, Q a (w.gr p)) : wpMix P md ops w0 z Q fuel listed a w := by
  cases fuel with
  | zero => exact ⟨hr, fun w' ⟨p, hp⟩ => hp ▸ h p⟩
  | succ fuel => exact ⟨fun _ w' ⟨p, hp⟩ => hp ▸ h p, fun i hi => by rw [hr] at hi; cases hi⟩

/-- THE REGION. Operation z, the last one, may write. -/
theorem wp_region_z (z n : Nat) {id : Nat} {Q : Exit → Act → World → Prop} {a : Act} {w : World} {l : List Oper} (hm : P.follows .mixedOrders = true) (hn : l.length = n)
    (h : wpMix P .any l.toArray w z (fun a'' w'' => Q .normal a'' w'') n (Array.replicate n false) a w) : (Code.region id l.toArray true).wp P Q a w := by
  refine wp_region_any hm (wpAny_of_mix (w0 := w) (z := z) (Q := fun a'' w'' => Q .normal a'' w'') (fun _ _ h => h) _ _ _ _ ?_)
  have h2 := wpMix_grow h (w1 := { w with drawn := w.drawn + 1 }) (Gn.drew (Gn.refl w))
  have hsz : l.toArray.size = n := by simpa using hn
  rw [hsz]
  exact h2
/-- A callee's contract at the quiet part. -/
theorem Calls.in_qg {f : FuncId} {args : Array Value} {w : World} {p : Gr} {v : Value}
    (h : Calls P f args (w.gr p) fun e w' => e = .returned v ∧ Gn (w.gr p) w') : Calls P f args (w.gr p) fun e w'' => e = .returned v ∧ ∃ q : Gr, w'' = w.gr ⟨q.d, p.os ++ q.os⟩ :=
  h.mono fun _ _ ⟨he, q, hq⟩ => ⟨he, q, by rw [hq, gr_gr]⟩
theorem Calls.in_qg_same {f : FuncId} {args : Array Value} {w : World} {p : Gr} {v : Value}
    (h : Calls P f args (w.gr p) fun e w' => e = .returned v ∧ w.gr p = w') : Calls P f args (w.gr p) fun e w'' => e = .returned v ∧ ∃ q : Gr, w'' = w.gr ⟨q.d, p.os ++ q.os⟩ :=
  Calls.in_qg (h.mono fun _ _ ⟨he, hw⟩ => ⟨he, hw ▸ Gn.refl _⟩)
end
end Go.Proofs.YtoaefmnjndklkaaDoor
