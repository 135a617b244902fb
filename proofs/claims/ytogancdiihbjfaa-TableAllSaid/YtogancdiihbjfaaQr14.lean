/- TableAll: the law, by the engine. -/
import Derived.Test.YtogancdiihbjfaaQrf
import Derived.Test.YtogancdiihbjfaaRows
import Derived.WalkKit
import Derived.ProofKit
import Derived.OpenShut
import Derived.ShutString
import Derived.ChangeOld
import Derived.Below
import Derived.SizedLaws
namespace Go.Proofs.Ytogancdiihbjfaa.tableAll
open Go.ChangeShapes Go.WideShapes Go.ChangeAt Go.RowKit Go.Eng
open Go.ChangeMaps (open_string shut_string)
theorem own : ownKnob Try.prog.godebug = none := by kernel_rfl
theorem laidOut : laidOutB Try.prog = true := by kernel_rfl
set_option maxRecDepth 100000 in
theorem lifted (os : Os) (started : os.Started) (H : Type) (enc : TypeId × Value → H) :
    ReturnsInHanded {} Try.checked os 14 .any (Rows.tableAllSpec.pre6 enc Try.prog Try.f14 Rows.tableAllRow.domain false) (Rows.tableAllSpec.post enc Try.prog Try.f14 false true false false) := by
  refine returnsInHanded_of_change_sized (C := Try.checked) own started (by kernel_rfl) Try.func14
    (ChangeSpec.witness6 (enc := enc) (C := Try.checked) false ⟨#[], #[.slice none 0 0, .int .i64 0, .float .f64 0, .slice none 0 0, .string ByteArray.empty, .int .i64 0], []⟩ 8 (by kernel_rfl) (by kernel_rfl) (by kernel_rfl) (by kernel_rfl)) ?_
  intro W base args ds gs before hval0 hW hcnd hsz0 _
  have hval : ∀ (j : Nat) t v, Try.f14.params[j]? = some t → args[j]? = some v → Value.okWide Try.prog W .any base t v := hval0
  have hW' := hW
  obtain ⟨p, q, hA0, hV, rfl, hfz, hnd⟩ := hW
  have hA : DataW.TrodAll enc Try.prog W 0 (fun _ => true) true Try.f14.params.toList args.toList ds p := hA0
  rw [Try.params14] at hA hval
  obtain ⟨v0, vs0, d0, ds0, p0, q0, hargs, rfl, rfl, h0, r0⟩ := trodAll_cons hA
  obtain ⟨v1, vs1, d1, ds1, p1, q1, rfl, rfl, rfl, h1, r1⟩ := trodAll_cons r0
  obtain ⟨v2, vs2, d2, ds2, p2, q2, rfl, rfl, rfl, h2, r2⟩ := trodAll_cons r1
  obtain ⟨v3, vs3, d3, ds3, p3, q3, rfl, rfl, rfl, h3, r3⟩ := trodAll_cons r2
  obtain ⟨v4, vs4, d4, ds4, p4, q4, rfl, rfl, rfl, h4, r4⟩ := trodAll_cons r3
  obtain ⟨v5, vs5, d5, ds5, p5, q5, rfl, rfl, rfl, h5, r5⟩ := trodAll_cons r4
  obtain ⟨rfl, rfl, rfl⟩ := trodAll_nil r5
  obtain rfl : args = #[v0, v1, v2, v3, v4, v5] := by cases args; simp_all
  obtain ⟨rfl, rfl⟩ := trodVars_none hV
  have m0 := h0
  have lt0 : ∀ x ∈ p0, x.block < W.heap.size := by obtain ⟨m_, hm_⟩ := m0; exact DataW.trod_lt m_ _ _ _ hm_
  obtain ⟨y0, V0, w0⟩ := open_arg (n := 8) (ty := (.sl Bk.EntryT)) (show tyOf Try.prog 8 22 = some (.sl Bk.EntryT) by kernel_rfl) (hval 0 22 v0 rfl rfl) h0
  have m1 := h1
  have lt1 : ∀ x ∈ p1, x.block < W.heap.size := by obtain ⟨m_, hm_⟩ := m1; exact DataW.trod_lt m_ _ _ _ hm_
  obtain ⟨y1, V1, w1⟩ := open_arg (n := 8) (ty := (.int .i64)) (show tyOf Try.prog 8 3 = some (.int .i64) by kernel_rfl) (hval 1 3 v1 rfl rfl) h1
  have m2 := h2
  have lt2 : ∀ x ∈ p2, x.block < W.heap.size := by obtain ⟨m_, hm_⟩ := m2; exact DataW.trod_lt m_ _ _ _ hm_
  obtain ⟨y2, V2, w2⟩ := open_arg (n := 8) (ty := (.flt .f64)) (show tyOf Try.prog 8 35 = some (.flt .f64) by kernel_rfl) (hval 2 35 v2 rfl rfl) h2
  have m3 := h3
  have lt3 : ∀ x ∈ p3, x.block < W.heap.size := by obtain ⟨m_, hm_⟩ := m3; exact DataW.trod_lt m_ _ _ _ hm_
  obtain ⟨y3, V3, w3⟩ := open_arg (n := 8) (ty := (.sl Bk.u8)) (show tyOf Try.prog 8 27 = some (.sl Bk.u8) by kernel_rfl) (hval 3 27 v3 rfl rfl) h3
  have m4 := h4
  have lt4 : ∀ x ∈ p4, x.block < W.heap.size := by obtain ⟨m_, hm_⟩ := m4; exact DataW.trod_lt m_ _ _ _ hm_
  obtain ⟨y4, V4, w4⟩ := open_arg (n := 8) (ty := .str) (show tyOf Try.prog 8 9 = some .str by kernel_rfl) (hval 4 9 v4 rfl rfl) h4
  have m5 := h5
  have lt5 : ∀ x ∈ p5, x.block < W.heap.size := by obtain ⟨m_, hm_⟩ := m5; exact DataW.trod_lt m_ _ _ _ hm_
  obtain ⟨y5, V5, w5⟩ := open_arg (n := 8) (ty := (.int .i64)) (show tyOf Try.prog 8 3 = some (.int .i64) by kernel_rfl) (hval 5 3 v5 rfl rfl) h5
  have hcon : Contract Try.prog (.one none .bool) 14 [argAV (.sl Bk.EntryT) y0, argAV (.int .i64) y1, argAV (.flt .f64) y2, argAV (.sl Bk.u8) y3, argAV .str y4, argAV (.int .i64) y5] true := callN_contract (n := 50000000) Bk.bok (by obtain ⟨b3, _⟩ := Bk.in_bytes w3; exact Bk.s14 (Nat.le_refl _) y0 y1 y2 b3 y4 y5)
  refine (hcon.truth (vargs := [v0, v1, v2, v3, v4, v5]) ⟨V0, V1, V2, V3, V4, V5, trivial⟩).mono fun e W' hE => ?_
  obtain ⟨he, bel⟩ := hE
  subst he
  exact ⟨_, rfl, _, _, _, [], _, [], hW', trodAll_mk1 (shut_bool Try.underlying4 _), (trodAll_cons_mk (Below.trod laidOut (by kernel_rfl) (of_decide_eq_true (by kernel_rfl)) m0 bel lt0) (trodAll_cons_mk (Below.trod laidOut (by kernel_rfl) (of_decide_eq_true (by kernel_rfl)) m1 bel lt1) (trodAll_cons_mk (Below.trod laidOut (by kernel_rfl) (of_decide_eq_true (by kernel_rfl)) m2 bel lt2) (trodAll_cons_mk (Below.trod laidOut (by kernel_rfl) (of_decide_eq_true (by kernel_rfl)) m3 bel lt3) (trodAll_cons_mk (Below.trod laidOut (by kernel_rfl) (of_decide_eq_true (by kernel_rfl)) m4 bel lt4) (trodAll_cons_mk (Below.trod laidOut (by kernel_rfl) (of_decide_eq_true (by kernel_rfl)) m5 bel lt5) trodAll_mk0)))))), rfl, bel.frame _, fun h => by cases h⟩
theorem over : Rows.tableAllRow.holds Try.pinned (OpenSpec.ofChange Rows.tableAllSpec) :=
  OpenClaim.holds_of_wide 14 Try.f14 rfl rfl rfl rfl rfl rfl rfl ⟨rfl, rfl, rfl, rfl, rfl⟩ rfl rfl rfl rfl rfl (by kernel_rfl) Try.func14 (by kernel_rfl)
    (of_decide_eq_true (by kernel_rfl)) (by unfold Func.isWrapper; first | (rw [if_pos (by decide +kernel)]; kernel_rfl) | (rw [if_neg (by decide +kernel)]; exact ⟨rfl, rfl⟩))
    (fun os started H enc _ => lifted os started H enc)
theorem proved : Rows.TableAllSaid := over
end Go.Proofs.Ytogancdiihbjfaa.tableAll
namespace Go.Proofs.Ytogancdiihbjfaa
/-- The row, under a short name, for the claim. -/
theorem tableAll_holds : Rows.TableAllSaid := tableAll.proved
end Go.Proofs.Ytogancdiihbjfaa
