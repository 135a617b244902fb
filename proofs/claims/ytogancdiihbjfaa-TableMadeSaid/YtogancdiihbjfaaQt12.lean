/- TableMade: the law, by the engine. -/
import Derived.Test.YtogancdiihbjfaaQtf
import Derived.Test.YtogancdiihbjfaaRows
import Derived.WalkKit
import Derived.ProofKit
import Derived.OpenShut
import Derived.ShutString
import Derived.ChangeOld
import Derived.Below
import Derived.SizedLaws
namespace Go.Proofs.Ytogancdiihbjfaa.tableMade
open Go.ChangeShapes Go.WideShapes Go.ChangeAt Go.RowKit Go.Eng
open Go.ChangeMaps (open_string shut_string)
theorem own : ownKnob Try.prog.godebug = none := by kernel_rfl
theorem laidOut : laidOutB Try.prog = true := by kernel_rfl
set_option maxRecDepth 100000 in
theorem lifted (os : Os) (started : os.Started) (H : Type) (enc : TypeId × Value → H) :
    ReturnsInHanded {} Try.checked os 12 .any (Rows.tableMadeSpec.pre6 enc Try.prog Try.f12 Rows.tableMadeRow.domain false) (Rows.tableMadeSpec.post enc Try.prog Try.f12 false true false false) := by
  refine returnsInHanded_of_change_sized (C := Try.checked) own started (by kernel_rfl) Try.func12
    (ChangeSpec.witness6 (enc := enc) (C := Try.checked) false ⟨#[], #[.slice none 0 0, .int .u8 0, .int .u8 0, .float .f64 0, .int .u16 0, .int .u8 0, .int .u8 0, .int .u8 0], []⟩ 8 (by kernel_rfl) (by kernel_rfl) (by kernel_rfl) (by kernel_rfl)) ?_
  intro W base args ds gs before hval0 hW hcnd hsz0 _
  have hval : ∀ (j : Nat) t v, Try.f12.params[j]? = some t → args[j]? = some v → Value.okWide Try.prog W .any base t v := hval0
  have hW' := hW
  obtain ⟨p, q, hA0, hV, rfl, hfz, hnd⟩ := hW
  have hA : DataW.TrodAll enc Try.prog W 0 (fun _ => true) true Try.f12.params.toList args.toList ds p := hA0
  rw [Try.params12] at hA hval
  obtain ⟨v0, vs0, d0, ds0, p0, q0, hargs, rfl, rfl, h0, r0⟩ := trodAll_cons hA
  obtain ⟨v1, vs1, d1, ds1, p1, q1, rfl, rfl, rfl, h1, r1⟩ := trodAll_cons r0
  obtain ⟨v2, vs2, d2, ds2, p2, q2, rfl, rfl, rfl, h2, r2⟩ := trodAll_cons r1
  obtain ⟨v3, vs3, d3, ds3, p3, q3, rfl, rfl, rfl, h3, r3⟩ := trodAll_cons r2
  obtain ⟨v4, vs4, d4, ds4, p4, q4, rfl, rfl, rfl, h4, r4⟩ := trodAll_cons r3
  obtain ⟨v5, vs5, d5, ds5, p5, q5, rfl, rfl, rfl, h5, r5⟩ := trodAll_cons r4
  obtain ⟨v6, vs6, d6, ds6, p6, q6, rfl, rfl, rfl, h6, r6⟩ := trodAll_cons r5
  obtain ⟨v7, vs7, d7, ds7, p7, q7, rfl, rfl, rfl, h7, r7⟩ := trodAll_cons r6
  obtain ⟨rfl, rfl, rfl⟩ := trodAll_nil r7
  obtain rfl : args = #[v0, v1, v2, v3, v4, v5, v6, v7] := by cases args; simp_all
  obtain ⟨rfl, rfl⟩ := trodVars_none hV
  have m0 := h0
  have lt0 : ∀ x ∈ p0, x.block < W.heap.size := by obtain ⟨m_, hm_⟩ := m0; exact DataW.trod_lt m_ _ _ _ hm_
  obtain ⟨y0, V0, w0⟩ := open_arg (n := 8) (ty := (.sl Bk.u8)) (show tyOf Try.prog 8 27 = some (.sl Bk.u8) by kernel_rfl) (hval 0 27 v0 rfl rfl) h0
  have m1 := h1
  have lt1 : ∀ x ∈ p1, x.block < W.heap.size := by obtain ⟨m_, hm_⟩ := m1; exact DataW.trod_lt m_ _ _ _ hm_
  obtain ⟨y1, V1, w1⟩ := open_arg (n := 8) (ty := Bk.u8) (show tyOf Try.prog 8 5 = some Bk.u8 by kernel_rfl) (hval 1 5 v1 rfl rfl) h1
  have m2 := h2
  have lt2 : ∀ x ∈ p2, x.block < W.heap.size := by obtain ⟨m_, hm_⟩ := m2; exact DataW.trod_lt m_ _ _ _ hm_
  obtain ⟨y2, V2, w2⟩ := open_arg (n := 8) (ty := Bk.u8) (show tyOf Try.prog 8 5 = some Bk.u8 by kernel_rfl) (hval 2 5 v2 rfl rfl) h2
  have m3 := h3
  have lt3 : ∀ x ∈ p3, x.block < W.heap.size := by obtain ⟨m_, hm_⟩ := m3; exact DataW.trod_lt m_ _ _ _ hm_
  obtain ⟨y3, V3, w3⟩ := open_arg (n := 8) (ty := (.flt .f64)) (show tyOf Try.prog 8 35 = some (.flt .f64) by kernel_rfl) (hval 3 35 v3 rfl rfl) h3
  have m4 := h4
  have lt4 : ∀ x ∈ p4, x.block < W.heap.size := by obtain ⟨m_, hm_⟩ := m4; exact DataW.trod_lt m_ _ _ _ hm_
  obtain ⟨y4, V4, w4⟩ := open_arg (n := 8) (ty := Bk.u16) (show tyOf Try.prog 8 49 = some Bk.u16 by kernel_rfl) (hval 4 49 v4 rfl rfl) h4
  have m5 := h5
  have lt5 : ∀ x ∈ p5, x.block < W.heap.size := by obtain ⟨m_, hm_⟩ := m5; exact DataW.trod_lt m_ _ _ _ hm_
  obtain ⟨y5, V5, w5⟩ := open_arg (n := 8) (ty := Bk.u8) (show tyOf Try.prog 8 5 = some Bk.u8 by kernel_rfl) (hval 5 5 v5 rfl rfl) h5
  have m6 := h6
  have lt6 : ∀ x ∈ p6, x.block < W.heap.size := by obtain ⟨m_, hm_⟩ := m6; exact DataW.trod_lt m_ _ _ _ hm_
  obtain ⟨y6, V6, w6⟩ := open_arg (n := 8) (ty := Bk.u8) (show tyOf Try.prog 8 5 = some Bk.u8 by kernel_rfl) (hval 6 5 v6 rfl rfl) h6
  have m7 := h7
  have lt7 : ∀ x ∈ p7, x.block < W.heap.size := by obtain ⟨m_, hm_⟩ := m7; exact DataW.trod_lt m_ _ _ _ hm_
  obtain ⟨y7, V7, w7⟩ := open_arg (n := 8) (ty := Bk.u8) (show tyOf Try.prog 8 5 = some Bk.u8 by kernel_rfl) (hval 7 5 v7 rfl rfl) h7
  have hcon : Contract Try.prog (.one none .bool) 12 [argAV (.sl Bk.u8) y0, argAV Bk.u8 y1, argAV Bk.u8 y2, argAV (.flt .f64) y3, argAV Bk.u16 y4, argAV Bk.u8 y5, argAV Bk.u8 y6, argAV Bk.u8 y7] true := callN_contract (n := 50000000) Bk.bok (by obtain ⟨b0, _⟩ := Bk.in_bytes w0; obtain ⟨n1, h1, rfl⟩ := Bk.in_u8 w1; obtain ⟨n2, h2, rfl⟩ := Bk.in_u8 w2; obtain ⟨n4, h4, rfl⟩ := Bk.in_u16 w4; obtain ⟨n5, h5, rfl⟩ := Bk.in_u8 w5; obtain ⟨n6, h6, rfl⟩ := Bk.in_u8 w6; exact Bk.s12 (Nat.le_refl _) b0 n1 n2 n4 n5 n6 h1 h2 h4 h5 h6 y3 y7)
  refine (hcon.truth (vargs := [v0, v1, v2, v3, v4, v5, v6, v7]) ⟨V0, V1, V2, V3, V4, V5, V6, V7, trivial⟩).mono fun e W' hE => ?_
  obtain ⟨he, bel⟩ := hE
  subst he
  exact ⟨_, rfl, _, _, _, [], _, [], hW', trodAll_mk1 (shut_bool Try.underlying4 _), (trodAll_cons_mk (Below.trod laidOut (by kernel_rfl) (of_decide_eq_true (by kernel_rfl)) m0 bel lt0) (trodAll_cons_mk (Below.trod laidOut (by kernel_rfl) (of_decide_eq_true (by kernel_rfl)) m1 bel lt1) (trodAll_cons_mk (Below.trod laidOut (by kernel_rfl) (of_decide_eq_true (by kernel_rfl)) m2 bel lt2) (trodAll_cons_mk (Below.trod laidOut (by kernel_rfl) (of_decide_eq_true (by kernel_rfl)) m3 bel lt3) (trodAll_cons_mk (Below.trod laidOut (by kernel_rfl) (of_decide_eq_true (by kernel_rfl)) m4 bel lt4) (trodAll_cons_mk (Below.trod laidOut (by kernel_rfl) (of_decide_eq_true (by kernel_rfl)) m5 bel lt5) (trodAll_cons_mk (Below.trod laidOut (by kernel_rfl) (of_decide_eq_true (by kernel_rfl)) m6 bel lt6) (trodAll_cons_mk (Below.trod laidOut (by kernel_rfl) (of_decide_eq_true (by kernel_rfl)) m7 bel lt7) trodAll_mk0)))))))), rfl, bel.frame _, fun h => by cases h⟩
theorem over : Rows.tableMadeRow.holds Try.pinned (OpenSpec.ofChange Rows.tableMadeSpec) :=
  OpenClaim.holds_of_wide 12 Try.f12 rfl rfl rfl rfl rfl rfl rfl ⟨rfl, rfl, rfl, rfl, rfl⟩ rfl rfl rfl rfl rfl (by kernel_rfl) Try.func12 (by kernel_rfl)
    (of_decide_eq_true (by kernel_rfl)) (by unfold Func.isWrapper; first | (rw [if_pos (by decide +kernel)]; kernel_rfl) | (rw [if_neg (by decide +kernel)]; exact ⟨rfl, rfl⟩))
    (fun os started H enc _ => lifted os started H enc)
theorem proved : Rows.TableMadeSaid := over
end Go.Proofs.Ytogancdiihbjfaa.tableMade
namespace Go.Proofs.Ytogancdiihbjfaa
/-- The row, under a short name, for the claim. -/
theorem tableMade_holds : Rows.TableMadeSaid := tableMade.proved
end Go.Proofs.Ytogancdiihbjfaa
