/- TableEnds: the law, by the engine. -/
import Derived.Test.YtogancdiihbjfaaQtf
import Derived.Test.YtogancdiihbjfaaRows
import Derived.WalkKit
import Derived.ProofKit
import Derived.OpenShut
import Derived.ShutString
import Derived.ChangeOld
import Derived.Below
import Derived.SizedLaws
namespace Go.Proofs.Ytogancdiihbjfaa.tableEnds
open Go.ChangeShapes Go.WideShapes Go.ChangeAt Go.RowKit Go.Eng
open Go.ChangeMaps (open_string shut_string)
theorem own : ownKnob Try.prog.godebug = none := by kernel_rfl
theorem laidOut : laidOutB Try.prog = true := by kernel_rfl
set_option maxRecDepth 100000 in
theorem lifted (os : Os) (started : os.Started) (H : Type) (enc : TypeId × Value → H) :
    ReturnsInHanded {} Try.checked os 15 .any (Rows.tableEndsSpec.pre6 enc Try.prog Try.f15 Rows.tableEndsRow.domain false) (Rows.tableEndsSpec.post enc Try.prog Try.f15 false true false false) := by
  refine returnsInHanded_of_change_sized (C := Try.checked) own started (by kernel_rfl) Try.func15
    (ChangeSpec.witness6 (enc := enc) (C := Try.checked) false ⟨#[], #[.slice none 0 0, .int .u8 0], []⟩ 8 (by kernel_rfl) (by kernel_rfl) (by kernel_rfl) (by kernel_rfl)) ?_
  intro W base args ds gs before hval0 hW hcnd hsz0 _
  have hval : ∀ (j : Nat) t v, Try.f15.params[j]? = some t → args[j]? = some v → Value.okWide Try.prog W .any base t v := hval0
  have hW' := hW
  obtain ⟨p, q, hA0, hV, rfl, hfz, hnd⟩ := hW
  have hA : DataW.TrodAll enc Try.prog W 0 (fun _ => true) true Try.f15.params.toList args.toList ds p := hA0
  rw [Try.params15] at hA hval
  obtain ⟨v0, vs0, d0, ds0, p0, q0, hargs, rfl, rfl, h0, r0⟩ := trodAll_cons hA
  obtain ⟨v1, vs1, d1, ds1, p1, q1, rfl, rfl, rfl, h1, r1⟩ := trodAll_cons r0
  obtain ⟨rfl, rfl, rfl⟩ := trodAll_nil r1
  obtain rfl : args = #[v0, v1] := by cases args; simp_all
  obtain ⟨rfl, rfl⟩ := trodVars_none hV
  have m0 := h0
  have lt0 : ∀ x ∈ p0, x.block < W.heap.size := by obtain ⟨m_, hm_⟩ := m0; exact DataW.trod_lt m_ _ _ _ hm_
  obtain ⟨y0, V0, w0⟩ := open_arg (n := 8) (ty := (.sl Bk.u8)) (show tyOf Try.prog 8 27 = some (.sl Bk.u8) by kernel_rfl) (hval 0 27 v0 rfl rfl) h0
  have m1 := h1
  have lt1 : ∀ x ∈ p1, x.block < W.heap.size := by obtain ⟨m_, hm_⟩ := m1; exact DataW.trod_lt m_ _ _ _ hm_
  obtain ⟨y1, V1, w1⟩ := open_arg (n := 8) (ty := Bk.u8) (show tyOf Try.prog 8 5 = some Bk.u8 by kernel_rfl) (hval 1 5 v1 rfl rfl) h1
  have hcon : Contract Try.prog (.one none .bool) 15 [argAV (.sl Bk.u8) y0, argAV Bk.u8 y1] true := callN_contract (n := 50000000) Bk.bok (by obtain ⟨b0, _⟩ := Bk.in_bytes w0; obtain ⟨n1, h1, rfl⟩ := Bk.in_u8 w1; exact Bk.s15 (Nat.le_refl _) b0 n1 h1)
  refine (hcon.truth (vargs := [v0, v1]) ⟨V0, V1, trivial⟩).mono fun e W' hE => ?_
  obtain ⟨he, bel⟩ := hE
  subst he
  exact ⟨_, rfl, _, _, _, [], _, [], hW', trodAll_mk1 (shut_bool Try.underlying4 _), (trodAll_cons_mk (Below.trod laidOut (by kernel_rfl) (of_decide_eq_true (by kernel_rfl)) m0 bel lt0) (trodAll_cons_mk (Below.trod laidOut (by kernel_rfl) (of_decide_eq_true (by kernel_rfl)) m1 bel lt1) trodAll_mk0)), rfl, bel.frame _, fun h => by cases h⟩
theorem over : Rows.tableEndsRow.holds Try.pinned (OpenSpec.ofChange Rows.tableEndsSpec) :=
  OpenClaim.holds_of_wide 15 Try.f15 rfl rfl rfl rfl rfl rfl rfl ⟨rfl, rfl, rfl, rfl, rfl⟩ rfl rfl rfl rfl rfl (by kernel_rfl) Try.func15 (by kernel_rfl)
    (of_decide_eq_true (by kernel_rfl)) (by unfold Func.isWrapper; first | (rw [if_pos (by decide +kernel)]; kernel_rfl) | (rw [if_neg (by decide +kernel)]; exact ⟨rfl, rfl⟩))
    (fun os started H enc _ => lifted os started H enc)
theorem proved : Rows.TableEndsSaid := over
end Go.Proofs.Ytogancdiihbjfaa.tableEnds
namespace Go.Proofs.Ytogancdiihbjfaa
/-- The row, under a short name, for the claim. -/
theorem tableEnds_holds : Rows.TableEndsSaid := tableEnds.proved
end Go.Proofs.Ytogancdiihbjfaa
