-- written by a program of this seat (wip/pr/row.py) out of the translation; Lean checks it
import Derived.Test.YtcglkacplbeakaaRows
import Derived.Test.YtcglkacplbeakaaPAx31
import Derived.Test.YtcglkacplbeakaaStmtKeyAll
import Derived.Test.YtcglkacplbeakaaPureKeyAll
import Derived.Test.YtcglkacplbeakaaQOpen
import Derived.WalkKit
import Derived.ProofKit
import Derived.OpenShut
import Derived.ShutString
import Derived.ChangeOld
import Derived.Below
import Derived.SizedLaws
import Derived.Test.YtcglkacplbeakaaWSized
namespace Go.Proofs.Ytcglkacplbeakaa.keyAll
open Go.ChangeShapes Go.WideShapes Go.ChangeAt Go.RowKit Go.Proofs.Ytcglkacplbeakaa.PA Go.Proofs.YtcglkacplbeakaaW.PrintWords
open Go.ChangeMaps (open_string shut_string)
set_option linter.unusedVariables false
set_option linter.unusedSimpArgs false
theorem own : ownKnob Try.prog.godebug = none := by kernel_rfl
theorem laidOut : laidOutB Try.prog = true := by kernel_rfl
set_option maxRecDepth 100000 in
theorem opens_S23 : Opens Try.prog 23 k23 (fun x => (x.f0.size ≤ maxLen) ∧ ((Lit.int .i64 x.f1).wf = true) ∧ ((Lit.int .i64 x.f2).wf = true)) where
  sz := by kernel_rfl
  op := by
    intro H enc w base held fuel cs x h
    have hl := (struct_len Try.underlying23 h).trans (show Try.prog.cellsOf 23 = 3 by kernel_rfl)
    obtain ⟨a0, K0, G0⟩ := field_op Try.underlying23 h 0 _ rfl (opens_string (P := Try.prog) Try.underlying9 (by kernel_rfl))
    obtain ⟨a1, K1, G1⟩ := field_op Try.underlying23 h 1 _ rfl (opens_int (P := Try.prog) (k := .i64) Try.underlying3 (by kernel_rfl))
    obtain ⟨a2, K2, G2⟩ := field_op Try.underlying23 h 2 _ rfl (opens_int (P := Try.prog) (k := .i64) Try.underlying3 (by kernel_rfl))
    match cs, hl with
    | [c0, c1, c2], _ =>
      have e0 : [c0] = [.string a0] := (by have h_ := K0; rw [show Try.prog.cellsOf _ = 1 from by kernel_rfl] at h_; exact h_)
      simp only [List.cons.injEq, and_true] at e0
      obtain rfl := e0
      have e1 : [c1] = [.int .i64 a1] := (by have h_ := K1; rw [show Try.prog.cellsOf _ = 1 from by kernel_rfl] at h_; exact h_)
      simp only [List.cons.injEq, and_true] at e1
      obtain rfl := e1
      have e2 : [c2] = [.int .i64 a2] := (by have h_ := K2; rw [show Try.prog.cellsOf _ = 1 from by kernel_rfl] at h_; exact h_)
      simp only [List.cons.injEq, and_true] at e2
      obtain rfl := e2
      exact ⟨(⟨a0, a1, a2⟩ : S23), k23_mk w _, ⟨G0, G1, G2⟩⟩
set_option maxRecDepth 100000 in
theorem opens_S48 : Opens Try.prog 48 k48 (fun x => ((x.f0.f0.size ≤ maxLen) ∧ ((Lit.int .i64 x.f0.f1).wf = true) ∧ ((Lit.int .i64 x.f0.f2).wf = true)) ∧ (x.f1.size ≤ maxLen)) where
  sz := by kernel_rfl
  op := by
    intro H enc w base held fuel cs x h
    have hl := (struct_len Try.underlying48 h).trans (show Try.prog.cellsOf 48 = 4 by kernel_rfl)
    obtain ⟨a0, K0, G0⟩ := field_op Try.underlying48 h 0 _ rfl opens_S23
    obtain ⟨a1, K1, G1⟩ := field_op Try.underlying48 h 1 _ rfl (opens_string (P := Try.prog) Try.underlying9 (by kernel_rfl))
    match cs, hl with
    | [c0, c1, c2, c3], _ =>
      have e0 : [c0, c1, c2] = [.string a0.f0, .int .i64 a0.f1, .int .i64 a0.f2] := k23_open (show k23.K w a0 [c0, c1, c2] from (by have h_ := K0; rw [show Try.prog.cellsOf _ = 3 from by kernel_rfl] at h_; exact h_))
      simp only [List.cons.injEq, and_true] at e0
      obtain ⟨rfl, rfl, rfl⟩ := e0
      have e1 : [c3] = [.string a1] := (by have h_ := K1; rw [show Try.prog.cellsOf _ = 1 from by kernel_rfl] at h_; exact h_)
      simp only [List.cons.injEq, and_true] at e1
      obtain rfl := e1
      exact ⟨(⟨a0, a1⟩ : S48), k48_mk w _, ⟨G0, G1⟩⟩
set_option maxRecDepth 100000 in
theorem lifted (os : Os) (started : os.Started) (H : Type) (enc : TypeId × Value → H) :
    ReturnsInHanded {} Try.checked os 9 .any (Rows.keyAllSpec.pre6 enc Try.prog Try.f9 Rows.keyAllRow.domain false) (Rows.keyAllSpec.post enc Try.prog Try.f9 false true false false) := by
  refine returnsInHanded_of_change_sized (C := Try.checked) own started (by kernel_rfl) Try.func9
    (ChangeSpec.witness6 (enc := enc) (C := Try.checked) false ⟨#[], #[.agg #[.string ByteArray.empty, .int .i64 0, .int .i64 0], .agg #[.string ByteArray.empty, .int .i64 0, .int .i64 0], .slice none 0 0, .slice none 0 0, .int .i64 0], []⟩ 8 (by kernel_rfl) (by kernel_rfl) (by kernel_rfl) (by kernel_rfl)) ?_
  intro W base args ds gs before hval0 hW hcnd hsz0 _
  have hsz : (DataW.weightsEach Try.prog (Try.f9.params.toList ++ Rows.keyAllSpec.plain.varTypes Try.prog) (ds ++ gs)).all (· ≤ reachBytes) = true := hsz0
  have hval : ∀ (j : Nat) t v, Try.f9.params[j]? = some t → args[j]? = some v → Value.okWide Try.prog W .any base t v := hval0
  have hW' := hW
  obtain ⟨p, q, hA0, hV, rfl, hfz, hnd⟩ := hW
  have hA : DataW.TrodAll enc Try.prog W 0 (fun _ => true) true Try.f9.params.toList args.toList ds p := hA0
  rw [Try.params9] at hA hval hsz
  obtain ⟨v0, vs0, d0, ds0, p0, q0, hargs, rfl, rfl, h0, r0⟩ := trodAll_cons hA
  obtain ⟨v1, vs1, d1, ds1, p1, q1, rfl, rfl, rfl, h1, r1⟩ := trodAll_cons r0
  obtain ⟨v2, vs2, d2, ds2, p2, q2, rfl, rfl, rfl, h2, r2⟩ := trodAll_cons r1
  obtain ⟨v3, vs3, d3, ds3, p3, q3, rfl, rfl, rfl, h3, r3⟩ := trodAll_cons r2
  obtain ⟨v4, vs4, d4, ds4, p4, q4, rfl, rfl, rfl, h4, r4⟩ := trodAll_cons r3
  obtain ⟨rfl, rfl, rfl⟩ := trodAll_nil r4
  obtain rfl : args = #[v0, v1, v2, v3, v4] := by cases args; simp_all
  obtain ⟨rfl, rfl⟩ := trodVars_none hV
  have m0 := h0
  have lt0 : ∀ x ∈ p0, x.block < W.heap.size := by obtain ⟨m_, hm_⟩ := m0; exact DataW.trod_lt m_ _ _ _ hm_
  obtain ⟨cs0, s0, rfl, K0, G0⟩ := open_agg Try.underlying23 opens_S23 (hval 0 23 v0 rfl rfl) h0
  obtain rfl := k23_open K0
  have m1 := h1
  have lt1 : ∀ x ∈ p1, x.block < W.heap.size := by obtain ⟨m_, hm_⟩ := m1; exact DataW.trod_lt m_ _ _ _ hm_
  obtain ⟨cs1, s1, rfl, K1, G1⟩ := open_agg Try.underlying23 opens_S23 (hval 1 23 v1 rfl rfl) h1
  obtain rfl := k23_open K1
  have m2 := h2
  have lt2 : ∀ x ∈ p2, x.block < W.heap.size := by obtain ⟨m_, hm_⟩ := m2; exact DataW.trod_lt m_ _ _ _ hm_
  obtain ⟨A2, c2, l2, rfl, hC2, hc2, G2⟩ := open_top Try.underlying46 (opens_slice (P := Try.prog) Try.underlying46 (by kernel_rfl) opens_S48) (hval 2 46 v2 rfl rfl) h2
  have m3 := h3
  have lt3 : ∀ x ∈ p3, x.block < W.heap.size := by obtain ⟨m_, hm_⟩ := m3; exact DataW.trod_lt m_ _ _ _ hm_
  obtain ⟨A3, c3, l3, rfl, hC3, hc3, G3⟩ := open_top Try.underlying28 (opens_slice (P := Try.prog) Try.underlying28 (by kernel_rfl) (opens_int (P := Try.prog) (k := .u8) Try.underlying5 (by kernel_rfl))) (hval 3 28 v3 rfl rfl) h3
  have y3 : l3.length * 1 ≤ 140737488351232 := sized_ints hsz (j := 3) (t := 28) rfl rfl Try.underlying28 Try.underlying5 (by kernel_rfl) (by kernel_rfl) h3
  have m4 := h4
  have lt4 : ∀ x ∈ p4, x.block < W.heap.size := by obtain ⟨m_, hm_⟩ := m4; exact DataW.trod_lt m_ _ _ _ hm_
  obtain ⟨a4, rfl, rfl, rfl, w4⟩ := open_int Try.underlying3 (hval 4 3 v4 rfl rfl) h4
  obtain ⟨k, hk⟩ := Pure.KeyAll s0.f0 s0.f1 s0.f2 s1.f0 s1.f1 s1.f2 l2 l3 a4 G0.1 G0.2.1 G0.2.2 G1.1 G1.2.1 G1.2.2 G2 G3 y3 w4
  refine (iceboxlaw2_KeyAll.calls k s0.f0 s0.f1 s0.f2 s1.f0 s1.f1 s1.f2 _ _ l2 _ _ l3 a4 true W hC2 hc2 hC3 hc3 hk rfl).mono fun e W' hE => ?_
  obtain ⟨he, hd⟩ := hE
  have bel : Below W.heap.size W W' := hd
  subst he
  exact ⟨_, rfl, _, _, _, [], _, [], hW', trodAll_mk1 (shut_bool Try.underlying4 _), (trodAll_cons_mk (Below.trod laidOut (by kernel_rfl) (of_decide_eq_true (by kernel_rfl)) m0 bel lt0) (trodAll_cons_mk (Below.trod laidOut (by kernel_rfl) (of_decide_eq_true (by kernel_rfl)) m1 bel lt1) (trodAll_cons_mk (Below.trod laidOut (by kernel_rfl) (of_decide_eq_true (by kernel_rfl)) m2 bel lt2) (trodAll_cons_mk (Below.trod laidOut (by kernel_rfl) (of_decide_eq_true (by kernel_rfl)) m3 bel lt3) (trodAll_cons_mk (Below.trod laidOut (by kernel_rfl) (of_decide_eq_true (by kernel_rfl)) m4 bel lt4) trodAll_mk0))))), rfl, bel.frame _, fun h => by cases h⟩
theorem over : Rows.keyAllRow.holds Try.pinned (OpenSpec.ofChange Rows.keyAllSpec) :=
  OpenClaim.holds_of_wide 9 Try.f9 rfl rfl rfl rfl rfl rfl rfl ⟨rfl, rfl, rfl, rfl, rfl⟩ rfl rfl rfl rfl rfl (by kernel_rfl) Try.func9 (by kernel_rfl)
    (of_decide_eq_true (by kernel_rfl)) (by unfold Func.isWrapper; first | (rw [if_pos (by decide +kernel)]; kernel_rfl) | (rw [if_neg (by decide +kernel)]; exact ⟨rfl, rfl⟩))
    (fun os started H enc _ => lifted os started H enc)
theorem proved : Rows.KeyAllSaid := over
#print axioms proved
end Go.Proofs.Ytcglkacplbeakaa.keyAll
namespace Go.Proofs.Ytcglkacplbeakaa
/-- The row, under a short name, for the claim. -/
theorem keyAll_holds : Rows.KeyAllSaid := keyAll.proved
end Go.Proofs.Ytcglkacplbeakaa
