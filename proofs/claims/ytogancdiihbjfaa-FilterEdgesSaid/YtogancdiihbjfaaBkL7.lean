/- FilterEdges: the law, by the engine. -/
import Derived.Test.YtogancdiihbjfaaRows
import Derived.Test.YtogancdiihbjfaaBkG19
import Derived.WalkKit
import Derived.ProofKit
import Derived.OpenShut
import Derived.ShutString
import Derived.ChangeOld
import Derived.Below
import Derived.SizedLaws
namespace Go.Proofs.Ytogancdiihbjfaa.filterEdges
open Go.ChangeShapes Go.WideShapes Go.ChangeAt Go.RowKit Go.Eng
open Go.ChangeMaps (open_string shut_string)
theorem own : ownKnob Try.prog.godebug = none := by kernel_rfl
theorem laidOut : laidOutB Try.prog = true := by kernel_rfl
set_option maxRecDepth 100000 in
theorem lifted (os : Os) (started : os.Started) (H : Type) (enc : TypeId × Value → H) :
    ReturnsInHanded {} Try.checked os 7 .any (Rows.filterEdgesSpec.pre6 enc Try.prog Try.f7 Rows.filterEdgesRow.domain false) (Rows.filterEdgesSpec.post enc Try.prog Try.f7 false true false false) := by
  refine returnsInHanded_of_change_sized (C := Try.checked) own started (by kernel_rfl) Try.func7
    (ChangeSpec.witness6 (enc := enc) (C := Try.checked) false ⟨#[], #[.float .f64 0, .float .f64 0], []⟩ 8 (by kernel_rfl) (by kernel_rfl) (by kernel_rfl) (by kernel_rfl)) ?_
  intro W base args ds gs before hval0 hW hcnd hsz0 _
  have hval : ∀ (j : Nat) t v, Try.f7.params[j]? = some t → args[j]? = some v → Value.okWide Try.prog W .any base t v := hval0
  have hW' := hW
  obtain ⟨p, q, hA0, hV, rfl, hfz, hnd⟩ := hW
  have hA : DataW.TrodAll enc Try.prog W 0 (fun _ => true) true Try.f7.params.toList args.toList ds p := hA0
  rw [Try.params7] at hA hval
  obtain ⟨v0, vs0, d0, ds0, p0, q0, hargs, rfl, rfl, h0, r0⟩ := trodAll_cons hA
  obtain ⟨v1, vs1, d1, ds1, p1, q1, rfl, rfl, rfl, h1, r1⟩ := trodAll_cons r0
  obtain ⟨rfl, rfl, rfl⟩ := trodAll_nil r1
  obtain rfl : args = #[v0, v1] := by cases args; simp_all
  obtain ⟨rfl, rfl⟩ := trodVars_none hV
  have m0 := h0
  have lt0 : ∀ x ∈ p0, x.block < W.heap.size := by obtain ⟨m_, hm_⟩ := m0; exact DataW.trod_lt m_ _ _ _ hm_
  obtain ⟨y0, V0, w0⟩ := open_arg (n := 8) (ty := (.flt .f64)) (show tyOf Try.prog 8 35 = some (.flt .f64) by kernel_rfl) (hval 0 35 v0 rfl rfl) h0
  have m1 := h1
  have lt1 : ∀ x ∈ p1, x.block < W.heap.size := by obtain ⟨m_, hm_⟩ := m1; exact DataW.trod_lt m_ _ _ _ hm_
  obtain ⟨y1, V1, w1⟩ := open_arg (n := 8) (ty := (.flt .f64)) (show tyOf Try.prog 8 35 = some (.flt .f64) by kernel_rfl) (hval 1 35 v1 rfl rfl) h1
  have hcon : Contract Try.prog (.one none .bool) 7 [argAV (.flt .f64) y0, argAV (.flt .f64) y1] true := callN_contract (n := 10000) Bk.bok (Bk.s7 (Nat.le_refl _) y0 y1)
  refine (hcon.truth (vargs := [v0, v1]) ⟨V0, V1, trivial⟩).mono fun e W' hE => ?_
  obtain ⟨he, bel⟩ := hE
  subst he
  exact ⟨_, rfl, _, _, _, [], _, [], hW', trodAll_mk1 (shut_bool Try.underlying4 _), (trodAll_cons_mk (Below.trod laidOut (by kernel_rfl) (of_decide_eq_true (by kernel_rfl)) m0 bel lt0) (trodAll_cons_mk (Below.trod laidOut (by kernel_rfl) (of_decide_eq_true (by kernel_rfl)) m1 bel lt1) trodAll_mk0)), rfl, bel.frame _, fun h => by cases h⟩
theorem over : Rows.filterEdgesRow.holds Try.pinned (OpenSpec.ofChange Rows.filterEdgesSpec) :=
  OpenClaim.holds_of_wide 7 Try.f7 rfl rfl rfl rfl rfl rfl rfl ⟨rfl, rfl, rfl, rfl, rfl⟩ rfl rfl rfl rfl rfl (by kernel_rfl) Try.func7 (by kernel_rfl)
    (of_decide_eq_true (by kernel_rfl)) (by unfold Func.isWrapper; first | (rw [if_pos (by decide +kernel)]; kernel_rfl) | (rw [if_neg (by decide +kernel)]; exact ⟨rfl, rfl⟩))
    (fun os started H enc _ => lifted os started H enc)
theorem proved : Rows.FilterEdgesSaid := over
end Go.Proofs.Ytogancdiihbjfaa.filterEdges
namespace Go.Proofs.Ytogancdiihbjfaa
/-- The row, under a short name, for the claim. -/
theorem filterEdges_holds : Rows.FilterEdgesSaid := filterEdges.proved
end Go.Proofs.Ytogancdiihbjfaa
