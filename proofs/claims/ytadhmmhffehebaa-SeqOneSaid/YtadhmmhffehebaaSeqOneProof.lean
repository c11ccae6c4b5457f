/- The law SeqOne returns true for all six numbers and leaves them as they were. -/
import Derived.Test.YtadhmmhffehebaaLaw
import Derived.Lib.SmallJoins
import Derived.Test.YtadhmmhffehebaaOneA
import Derived.Test.YtadhmmhffehebaaOneB
import Derived.Test.YtadhmmhffehebaaOneC
import Derived.Test.YtadhmmhffehebaaOneD
import Derived.Test.YtadhmmhffehebaaOneE
import Derived.Test.YtadhmmhffehebaaOneF
namespace Go.Proofs.Ytadhmmhffehebaa.seqOne
open Go.Proofs.Ytadhmmhffehebaa Go.ChangeShapes Go.WideShapes Go.ChangeAt Go.RowKit Go.Joins
set_option linter.unusedVariables false

theorem one_walk (n m f x g y : Int) (w : World) (hn : 0 ≤ n ∧ n ≤ 4294967295) (hm : 0 ≤ m ∧ m ≤ 4294967295) (hf : 0 ≤ f ∧ f ≤ 4294967295) (hx : 0 ≤ x ∧ x ≤ 4294967295) (hg : 0 ≤ g ∧ g ≤ 4294967295) (hy : 0 ≤ y ∧ y ≤ 4294967295) :
    Calls Try.prog 4 #[.int .u32 n, .int .u32 m, .int .u32 f, .int .u32 x, .int .u32 g, .int .u32 y] w fun e w' => e = .returned (.bool true) ∧ Gn w w' := by
  cases hok : (meetS f (x % 1073741825) g (y % 1073741825)).2.2 <;> cases hwas : (joinS f (x % 1073741825) g (y % 1073741825)).2.2 <;> cases his : inB f (x % 1073741825) n <;> cases hit : inB g (y % 1073741825) n
  · exact one_8 n m f x g y w hn hm hf hx hg hy hok hwas his
  · exact one_8 n m f x g y w hn hm hf hx hg hy hok hwas his
  · exact one_7 n m f x g y w hn hm hf hx hg hy hok hwas his
  · exact one_7 n m f x g y w hn hm hf hx hg hy hok hwas his
  · exact one_11 n m f x g y w hn hm hf hx hg hy hok hwas his hit
  · exact one_10 n m f x g y w hn hm hf hx hg hy hok hwas his hit
  · exact one_9 n m f x g y w hn hm hf hx hg hy hok hwas his
  · exact one_9 n m f x g y w hn hm hf hx hg hy hok hwas his
  · exact one_2 n m f x g y w hn hm hf hx hg hy hok hwas his
  · exact one_2 n m f x g y w hn hm hf hx hg hy hok hwas his
  · exact one_1 n m f x g y w hn hm hf hx hg hy hok hwas his hit
  · exact one_0 n m f x g y w hn hm hf hx hg hy hok hwas his hit
  · exact one_6 n m f x g y w hn hm hf hx hg hy hok hwas his hit
  · exact one_5 n m f x g y w hn hm hf hx hg hy hok hwas his hit
  · exact one_4 n m f x g y w hn hm hf hx hg hy hok hwas his hit
  · exact one_3 n m f x g y w hn hm hf hx hg hy hok hwas his hit

theorem opened (H : Type) (enc : TypeId × Value → H) (W : World) (base : Nat) (args : Array Value) (ds : List (DataW H)) (p : List MemPlace)
    (hval : ∀ (j : Nat) t v, [22, 22, 22, 22, 22, 22][j]? = some t → args[j]? = some v → Value.okWide Try.prog W .any base t v)
    (hA : DataW.TrodAll enc Try.prog W 0 (fun _ => true) true [22, 22, 22, 22, 22, 22] args.toList ds p) (hlt : ∀ x ∈ p, x.block < W.heap.size) :
    Calls Try.prog 4 args W fun e w' => e = .returned (.bool true) ∧ Gn W w' := by
  obtain ⟨v0, vs0, d0, ds0, p0, q0, hargs, rfl, rfl, h0, r0⟩ := trodAll_cons hA
  obtain ⟨v1, vs1, d1, ds1, p1, q1, rfl, rfl, rfl, h1, r1⟩ := trodAll_cons r0
  obtain ⟨v2, vs2, d2, ds2, p2, q2, rfl, rfl, rfl, h2, r2⟩ := trodAll_cons r1
  obtain ⟨v3, vs3, d3, ds3, p3, q3, rfl, rfl, rfl, h3, r3⟩ := trodAll_cons r2
  obtain ⟨v4, vs4, d4, ds4, p4, q4, rfl, rfl, rfl, h4, r4⟩ := trodAll_cons r3
  obtain ⟨v5, vs5, d5, ds5, p5, q5, rfl, rfl, rfl, h5, r5⟩ := trodAll_cons r4
  obtain ⟨rfl, rfl, rfl⟩ := trodAll_nil r5
  obtain rfl : args = #[v0, v1, v2, v3, v4, v5] := by cases args; simp_all
  obtain ⟨n, rfl, rfl, rfl, wn⟩ := open_int Try.underlying22 (hval 0 22 v0 rfl rfl) h0
  obtain ⟨m, rfl, rfl, rfl, wm⟩ := open_int Try.underlying22 (hval 1 22 v1 rfl rfl) h1
  obtain ⟨f, rfl, rfl, rfl, wff⟩ := open_int Try.underlying22 (hval 2 22 v2 rfl rfl) h2
  obtain ⟨x, rfl, rfl, rfl, wx⟩ := open_int Try.underlying22 (hval 3 22 v3 rfl rfl) h3
  obtain ⟨g, rfl, rfl, rfl, wg⟩ := open_int Try.underlying22 (hval 4 22 v4 rfl rfl) h4
  obtain ⟨y, rfl, rfl, rfl, wy⟩ := open_int Try.underlying22 (hval 5 22 v5 rfl rfl) h5
  exact one_walk n m f x g y W (wf_u32 wn) (wf_u32 wm) (wf_u32 wff) (wf_u32 wx) (wf_u32 wg) (wf_u32 wy)

theorem specIs (H : Type) (ds : List (DataW H)) (h : ds.length = 6) : Rows.seqOneSpec.fn H (ds ++ []) = { results := [.lit (.bool true)], args := ds } := by
  rw [List.append_nil]
  match ds, h with
  | [d0, d1, d2, d3, d4, d5], _ => rfl

theorem trodAll_length {H : Type} {enc : TypeId × Value → H} {P : Program} {w : World} {b : Nat} {sp : Nat → Bool} {hd : Bool} : ∀ {ts : List TypeId} {vs : List Value} {ds : List (DataW H)} {ps : List MemPlace}, DataW.TrodAll enc P w b sp hd ts vs ds ps → ds.length = ts.length
  | [], [], [], _, _ => rfl
  | _ :: _, _ :: _, _ :: _, _, ⟨_, _, _, h2, _⟩ => by simp [trodAll_length h2]

set_option maxRecDepth 100000 in
theorem lifted (os : Os) (started : os.Started) (H : Type) (enc : TypeId × Value → H) :
    ReturnsInHanded {} Try.checked os 4 .any (Rows.seqOneSpec.pre6 enc Try.prog Try.f4 Rows.seqOneRow.domain false) (Rows.seqOneSpec.post enc Try.prog Try.f4 false true false false) := by
  refine returnsInHanded_of_change (C := Try.checked) own started (by kernel_rfl) Try.func4
    (ChangeSpec.witness6 (enc := enc) (C := Try.checked) false ⟨#[], #[.int .u32 0, .int .u32 0, .int .u32 0, .int .u32 0, .int .u32 0, .int .u32 0], []⟩ 8 (by kernel_rfl) (by kernel_rfl) (by kernel_rfl) (by kernel_rfl)) ?_
  intro W base args ds gs before hval0 hW _ _
  have hval : ∀ (j : Nat) t v, Try.f4.params[j]? = some t → args[j]? = some v → Value.okWide Try.prog W .any base t v := hval0
  have hW' : DataW.Whole enc Try.prog Try.f4.params.toList Rows.seqOneSpec.vars false W args.toList ds gs before := hW
  have hlt := hW'.lt
  obtain ⟨p, q, hA0, hV, rfl, hfz, hnd⟩ := hW
  have hA : DataW.TrodAll enc Try.prog W 0 (fun _ => true) true Try.f4.params.toList args.toList ds p := hA0
  rw [Try.params4] at hA hval
  obtain ⟨rfl, rfl⟩ := trodVars_none hV
  refine (opened H enc W base args ds p (by simpa using hval) hA (fun x hx => hlt x (List.mem_append_left _ hx))).mono fun e W' ⟨he, hg⟩ => ?_
  subst he
  exact ⟨_, rfl, law_post (P := Try.prog) laidOut (by rw [Try.params4]) (by kernel_rfl) (by kernel_rfl) Try.underlying4 rfl (specIs H ds (trodAll_length hA)) hW' hg⟩

theorem over : Rows.seqOneRow.holds Try.pinned (OpenSpec.ofChange Rows.seqOneSpec) :=
  OpenClaim.holds_of_wide 4 Try.f4 rfl rfl rfl rfl rfl rfl rfl ⟨rfl, rfl, rfl, rfl, rfl⟩ rfl rfl rfl rfl rfl (by kernel_rfl) Try.func4 (by kernel_rfl)
    (of_decide_eq_true (by kernel_rfl)) (by unfold Func.isWrapper; first | (rw [if_pos (by decide +kernel)]; kernel_rfl) | (rw [if_neg (by decide +kernel)]; exact ⟨rfl, rfl⟩))
    (fun os started H enc _ => lifted os started H enc)

/-- The given statement. -/
theorem proved : Rows.SeqOneSaid :=
  over
#print axioms proved
end Go.Proofs.Ytadhmmhffehebaa.seqOne
