/- TopRoundPierced returns true at every input, and each argument reads afterwards as it read before, without any condition. -/
import Derived.Test.YtcnbffganikmfaaFn4
import Derived.Test.YtcnbffganikmfaaRows
set_option linter.unusedVariables false
namespace Go.Proofs.Ytcnbffganikmfaa.pierced
open Go Go.Ev Go.ChangeShapes Go.WideShapes Go.ChangeAt Go.RowKit Go.Proofs Go.Proofs.TryT

theorem own : ownKnob Try.prog.godebug = none := by kernel_rfl
theorem laid : laidOutB Try.prog = true := by kernel_rfl
theorem cfg (base : Nat) : CfgOK TC base := fun {g args σ v σ'} h _ => by cases h

set_option maxRecDepth 100000 in
theorem walk (W : World) {base : Nat} (v0 v1 v2 : Value) {H : Type} {enc : TypeId × Value → H} {d1 : DataW H} {p1 : List MemPlace} (h0 : Value.okWide Try.prog W .any base 27 v0) (h1 : Value.okWide Try.prog W .any base 28 v1) (h2 : Value.okWide Try.prog W .any base 24 v2)
    (ht : DataW.Trod enc Try.prog W 0 (fun _ => true) true 28 v1 d1 p1) : Calls Try.prog 3 #[v0, v1, v2] W (fun e W' => e = .returned (.bool true) ∧ Below W.heap.size W W') := by
  obtain ⟨b, hb, hv0⟩ := open_bytesAgg (n := 61) (u := 5) A27 (by kernel_rfl) U5 (by kernel_rfl) (by omega) h0
  obtain ⟨b2, hb2, hv2⟩ := open_bytesAgg (n := 2) (u := 5) A24 (by kernel_rfl) U5 (by kernel_rfl) (by omega) h2
  obtain ⟨sk, vs, hsk, hvs, hv1⟩ := open_bytesSl (u := 5) U28 U5 (by kernel_rfl) h1 ht
  have hrun := c3 b hb sk hsk vs hvs (b2 0) (b2 1) (hb2 0) (hb2 1) []
  have hc : cellsR b = (List.range 61).map fun i => V.int .u8 (b i) := by simp [cellsR]
  rw [hc] at hrun
  refine (calls_of_run (C := TC) cfg (m := false) rfl Try.func3 rfl hrun (sim0 Try.prog W) ⟨rfl, fun i a x ha hx => ?_⟩).mono fun e W' ⟨v', G, he, hv, _, _, hbl⟩ => ?_
  · rcases i with _ | _ | _ | i
    · simp at ha hx; subst ha; subst hx; exact hv0
    · simp at ha hx; subst ha; subst hx; exact hv1
    · simp at ha hx; subst ha; subst hx; exact hv2
    · simp at ha
  · cases hv
    exact ⟨he, hbl⟩

set_option maxRecDepth 100000 in
theorem lifted (os : Os) (started : os.Started) (H : Type) (enc : TypeId × Value → H) :
    ReturnsInHanded {} Try.checked os 3 .any (Rows.topRoundPiercedSpec.pre6 enc Try.prog Try.f3 Rows.topRoundPiercedRow.domain false) (Rows.topRoundPiercedSpec.post enc Try.prog Try.f3 false true false false) := by
  refine returnsInHanded_of_change (C := Try.checked) own started (by kernel_rfl) Try.func3
    (ChangeSpec.witness6 (enc := enc) (C := Try.checked) false ⟨#[], #[.agg (Array.replicate 61 (.int .u8 0)), .slice none 0 0, .agg #[.int .u8 0, .int .u8 0]], []⟩ 8 (by kernel_rfl) (by kernel_rfl) (by kernel_rfl) (by kernel_rfl)) ?_
  intro W base args ds gs before hval0 hW hcnd _
  have hval : ∀ (j : Nat) t v, Try.f3.params[j]? = some t → args[j]? = some v → Value.okWide Try.prog W .any base t v := hval0
  have hW' := hW
  obtain ⟨p, q, hA0, hV, rfl, hfz, hnd⟩ := hW
  have hA : DataW.TrodAll enc Try.prog W 0 (fun _ => true) true Try.f3.params.toList args.toList ds p := hA0
  rw [Try.params3] at hA hval
  obtain ⟨v0, vs0, d0, ds0, p0, q0, hargs, rfl, rfl, h0, r0⟩ := trodAll_cons hA
  obtain ⟨v1, vs1, d1, ds1, p1, q1, rfl, rfl, rfl, h1, r1⟩ := trodAll_cons r0
  obtain ⟨v2, vs2, d2, ds2, p2, q2, rfl, rfl, rfl, h2, r2⟩ := trodAll_cons r1
  obtain ⟨rfl, rfl, rfl⟩ := trodAll_nil r2
  obtain rfl : args = #[v0, v1, v2] := by cases args; simp_all
  obtain ⟨rfl, rfl⟩ := trodVars_none hV
  refine (walk W v0 v1 v2 (hval 0 27 v0 rfl rfl) (hval 1 28 v1 rfl rfl) (hval 2 24 v2 rfl rfl) h1).mono fun e W' ⟨he, hg⟩ => ?_
  subst he
  exact ⟨_, rfl, post_law (tb := 4) hW' rfl rfl rfl U4 laid (by rw [Try.params3]; simp; exact ⟨⟨by kernel_rfl, of_decide_eq_true (by kernel_rfl)⟩, ⟨by kernel_rfl, of_decide_eq_true (by kernel_rfl)⟩, by kernel_rfl, of_decide_eq_true (by kernel_rfl)⟩) hg⟩

theorem over : Rows.topRoundPiercedRow.holds Try.pinned (OpenSpec.ofChange Rows.topRoundPiercedSpec) :=
  OpenClaim.holds_of_wide 3 Try.f3 rfl rfl rfl rfl rfl rfl rfl ⟨rfl, rfl, rfl, rfl, rfl⟩ rfl rfl rfl rfl rfl (by kernel_rfl) Try.func3 (by kernel_rfl)
    (of_decide_eq_true (by kernel_rfl)) (by unfold Func.isWrapper; first | (rw [if_pos (by decide +kernel)]; kernel_rfl) | (rw [if_neg (by decide +kernel)]; exact ⟨rfl, rfl⟩))
    (fun os started H enc _ => lifted os started H enc)

theorem proved : Rows.TopRoundPiercedSaid := over
end Go.Proofs.Ytcnbffganikmfaa.pierced
