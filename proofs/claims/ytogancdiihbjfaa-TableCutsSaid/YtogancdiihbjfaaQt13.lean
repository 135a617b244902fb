/- TableCuts: the law, by the engine. -/
import Derived.Test.YtogancdiihbjfaaQtf
import Derived.Test.YtogancdiihbjfaaRows
import Derived.WalkKit
import Derived.ProofKit
import Derived.OpenShut
import Derived.ShutString
import Derived.ChangeOld
import Derived.Below
import Derived.SizedLaws
namespace Go.Proofs.Ytogancdiihbjfaa.tableCuts
open Go.ChangeShapes Go.WideShapes Go.ChangeAt Go.RowKit Go.Eng
open Go.ChangeMaps (open_string shut_string)
theorem own : ownKnob Try.prog.godebug = none := by kernel_rfl
theorem laidOut : laidOutB Try.prog = true := by kernel_rfl
set_option maxRecDepth 100000 in
theorem lifted (os : Os) (started : os.Started) (H : Type) (enc : TypeId × Value → H) :
    ReturnsInHanded {} Try.checked os 13 .any (Rows.tableCutsSpec.pre6 enc Try.prog Try.f13 Rows.tableCutsRow.domain false) (Rows.tableCutsSpec.post enc Try.prog Try.f13 false true false false) := by
  refine returnsInHanded_of_change_sized (C := Try.checked) own started (by kernel_rfl) Try.func13
    (ChangeSpec.witness6 (enc := enc) (C := Try.checked) false ⟨#[], #[.slice none 0 0, .int .u16 0, .slice none 0 0], []⟩ 8 (by kernel_rfl) (by kernel_rfl) (by kernel_rfl) (by kernel_rfl)) ?_
  intro W base args ds gs before hval0 hW hcnd hsz0 _
  have hval : ∀ (j : Nat) t v, Try.f13.params[j]? = some t → args[j]? = some v → Value.okWide Try.prog W .any base t v := hval0
  have hW' := hW
  obtain ⟨p, q, hA0, hV, rfl, hfz, hnd⟩ := hW
  have hA : DataW.TrodAll enc Try.prog W 0 (fun _ => true) true Try.f13.params.toList args.toList ds p := hA0
  rw [Try.params13] at hA hval
  obtain ⟨v0, vs0, d0, ds0, p0, q0, hargs, rfl, rfl, h0, r0⟩ := trodAll_cons hA
  obtain ⟨v1, vs1, d1, ds1, p1, q1, rfl, rfl, rfl, h1, r1⟩ := trodAll_cons r0
  obtain ⟨v2, vs2, d2, ds2, p2, q2, rfl, rfl, rfl, h2, r2⟩ := trodAll_cons r1
  obtain ⟨rfl, rfl, rfl⟩ := trodAll_nil r2
  obtain rfl : args = #[v0, v1, v2] := by cases args; simp_all
  obtain ⟨rfl, rfl⟩ := trodVars_none hV
  have m0 := h0
  have lt0 : ∀ x ∈ p0, x.block < W.heap.size := by obtain ⟨m_, hm_⟩ := m0; exact DataW.trod_lt m_ _ _ _ hm_
  obtain ⟨y0, V0, w0⟩ := open_arg (n := 8) (ty := (.sl Bk.u8)) (show tyOf Try.prog 8 27 = some (.sl Bk.u8) by kernel_rfl) (hval 0 27 v0 rfl rfl) h0
  have m1 := h1
  have lt1 : ∀ x ∈ p1, x.block < W.heap.size := by obtain ⟨m_, hm_⟩ := m1; exact DataW.trod_lt m_ _ _ _ hm_
  obtain ⟨y1, V1, w1⟩ := open_arg (n := 8) (ty := Bk.u16) (show tyOf Try.prog 8 49 = some Bk.u16 by kernel_rfl) (hval 1 49 v1 rfl rfl) h1
  have m2 := h2
  have lt2 : ∀ x ∈ p2, x.block < W.heap.size := by obtain ⟨m_, hm_⟩ := m2; exact DataW.trod_lt m_ _ _ _ hm_
  obtain ⟨y2, V2, w2⟩ := open_arg (n := 8) (ty := (.sl Bk.u8)) (show tyOf Try.prog 8 27 = some (.sl Bk.u8) by kernel_rfl) (hval 2 27 v2 rfl rfl) h2
  have hcon : Contract Try.prog (.one none .bool) 13 [argAV (.sl Bk.u8) y0, argAV Bk.u16 y1, argAV (.sl Bk.u8) y2] true := callN_contract (n := 50000000) Bk.bok (by obtain ⟨b0, _⟩ := Bk.in_bytes w0; obtain ⟨n1, h1, rfl⟩ := Bk.in_u16 w1; obtain ⟨b2, _⟩ := Bk.in_bytes w2; exact Bk.s13 (Nat.le_refl _) b0 n1 h1 b2)
  refine (hcon.truth (vargs := [v0, v1, v2]) ⟨V0, V1, V2, trivial⟩).mono fun e W' hE => ?_
  obtain ⟨he, bel⟩ := hE
  subst he
  exact ⟨_, rfl, _, _, _, [], _, [], hW', trodAll_mk1 (shut_bool Try.underlying4 _), (trodAll_cons_mk (Below.trod laidOut (by kernel_rfl) (of_decide_eq_true (by kernel_rfl)) m0 bel lt0) (trodAll_cons_mk (Below.trod laidOut (by kernel_rfl) (of_decide_eq_true (by kernel_rfl)) m1 bel lt1) (trodAll_cons_mk (Below.trod laidOut (by kernel_rfl) (of_decide_eq_true (by kernel_rfl)) m2 bel lt2) trodAll_mk0))), rfl, bel.frame _, fun h => by cases h⟩
theorem over : Rows.tableCutsRow.holds Try.pinned (OpenSpec.ofChange Rows.tableCutsSpec) :=
  OpenClaim.holds_of_wide 13 Try.f13 rfl rfl rfl rfl rfl rfl rfl ⟨rfl, rfl, rfl, rfl, rfl⟩ rfl rfl rfl rfl rfl (by kernel_rfl) Try.func13 (by kernel_rfl)
    (of_decide_eq_true (by kernel_rfl)) (by unfold Func.isWrapper; first | (rw [if_pos (by decide +kernel)]; kernel_rfl) | (rw [if_neg (by decide +kernel)]; exact ⟨rfl, rfl⟩))
    (fun os started H enc _ => lifted os started H enc)
theorem proved : Rows.TableCutsSaid := over
end Go.Proofs.Ytogancdiihbjfaa.tableCuts
namespace Go.Proofs.Ytogancdiihbjfaa
/-- The row, under a short name, for the claim. -/
theorem tableCuts_holds : Rows.TableCutsSaid := tableCuts.proved
end Go.Proofs.Ytogancdiihbjfaa
