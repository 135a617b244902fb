/- KeyOrder: whatever three keys come in, the function answers true (the comparison of keys is an order). No condition. -/
import Derived.Test.YtcglkacplbeakaaRows
import Derived.Test.YtcglkacplbeakaaKOb
import Derived.WalkKit
import Derived.ProofKit
import Derived.OpenShut
import Derived.ShutString
import Derived.ChangeOld
import Derived.Below
import Derived.SizedLaws
namespace Go.Eng.KO
open Go Go.Proofs Go.Eng
set_option maxRecDepth 100000 in
theorem s3 (a b c : KeyT.den) : callN B 9 3 [argAV KeyT a, argAV KeyT b, argAV KeyT c] = (some true : Option Bool) := by
  refine (t3 (callN B 8) 8 a b c).trans ?_
  have hA : AW (callN B 8) = some true := bnd (s15 (by omega)) rfl
  rw [hA]
  generalize Decidable.decide (((ByteArray.size a.fst : Nat) : Int) > (500 : Int)) = q1
  generalize Decidable.decide (((ByteArray.size b.fst : Nat) : Int) > (500 : Int)) = q2
  generalize Decidable.decide (((ByteArray.size c.fst : Nat) : Int) > (500 : Int)) = q3
  cases q1 with
  | true => rfl
  | false =>
  cases q2 with
  | true => rfl
  | false =>
  cases q3 with
  | true => rfl
  | false =>
  refine bnd (s16 (by omega) a b) (bnd (s16 (by omega) b c) (bnd (s16 (by omega) a c) (bnd (s16 (by omega) b a) ?_)))
  obtain ⟨u, s, d, _⟩ := a
  obtain ⟨v, t, e, _⟩ := b
  obtain ⟨x, y, z, _⟩ := c
  change T (some true) (cmpK v t e u s d == IntKind.i64.wrap ((0 : Int) - cmpK u s d v t e)) ((cmpK u s d v t e == (0 : Int)) == (ByteArray.toList u == ByteArray.toList v && (s == t && d == e)))
    (decide (cmpK u s d v t e > (0 : Int))) (decide (cmpK v t e x y z > (0 : Int))) (decide (cmpK u s d x y z ≤ (0 : Int))) (decide (cmpK u s d v t e < (0 : Int))) (decide (cmpK v t e x y z < (0 : Int))) (decide (cmpK u s d x y z ≥ (0 : Int)))
    (!Op.bytesLess (ByteArray.toList u) (ByteArray.toList v)) (cmpK u s d v t e == (-1 : Int)) (!(ByteArray.toList u == ByteArray.toList v)) (decide ((s : Int) ≤ t)) = some true
  have ne : LtK u s d v t e ∨ LtK v t e u s d → (ByteArray.toList u == ByteArray.toList v && (s == t && d == e)) = false := by
    intro h1
    rw [Bool.eq_false_iff]
    intro hh
    simp only [Bool.and_eq_true, beq_iff_eq] at hh
    obtain ⟨a1, a2, a3⟩ := hh
    have := ba_ext a1
    subst this a2 a3
    exact h1.elim LtK.irr LtK.irr
  rcases cmpK_iff u s d v t e with ⟨c1, h1⟩ | ⟨c1, rfl, rfl, rfl⟩ | ⟨c1, h1⟩
  · rw [c1, cmpK_gt h1]
    refine T_ok _ _ _ _ _ _ _ _ _ _ _ _ _ (by decide +kernel) (by rw [ne (.inl h1)]; rfl) ?_ (by simp) (by simp) (by simp)
    rcases cmpK_iff v t e x y z with ⟨c2, h2⟩ | ⟨c2, rfl, rfl, rfl⟩ | ⟨c2, h2⟩
    · rw [cmpK_lt (h1.trans h2)]; simp
    · rw [cmpK_lt h1]; simp
    · rw [c2]; simp
  · rw [cmpK_self]
    refine T_ok _ _ _ _ _ _ _ _ _ _ _ _ _ (by decide +kernel) (by simp) ?_ ?_ (by rw [bl_irr]; simp) (by simp)
    · rcases cmpK_iff u s d x y z with ⟨c2, _⟩ | ⟨c2, _⟩ | ⟨c2, _⟩ <;> rw [c2] <;> simp
    · rcases cmpK_iff u s d x y z with ⟨c2, _⟩ | ⟨c2, _⟩ | ⟨c2, _⟩ <;> rw [c2] <;> simp
  · rw [c1, cmpK_lt h1]
    refine T_ok _ _ _ _ _ _ _ _ _ _ _ _ _ (by decide +kernel) (by rw [ne (.inr h1)]; rfl) (by simp) ?_ ?_ ?_
    · rcases cmpK_iff v t e x y z with ⟨c2, h2⟩ | ⟨c2, rfl, rfl, rfl⟩ | ⟨c2, h2⟩
      · rw [c2]; simp
      · rw [cmpK_gt h1]; simp
      · rw [cmpK_gt (h2.trans h1)]; simp
    · rcases h1 with h1 | ⟨h1, h2⟩
      · rw [bl_asym h1]; simp
      · rw [h1, bl_irr]; simp
    · rcases h1 with h1 | ⟨h1, h2⟩
      · have : ByteArray.toList u ≠ ByteArray.toList v := fun hh => by rw [hh, bl_irr] at h1; cases h1
        simp [this]
      · have : (s : Int) ≤ t := by
          rcases h2 with h2 | ⟨h2, _⟩
          · exact Int.le_of_lt h2
          · exact Int.le_of_eq h2.symm
        simp [this]
end Go.Eng.KO
namespace Go.Proofs.Ytcglkacplbeakaa.keyOrder
open Go.ChangeShapes Go.WideShapes Go.ChangeAt Go.RowKit Go.Eng
open Go.ChangeMaps (open_string shut_string)
theorem own : ownKnob Try.prog.godebug = none := by kernel_rfl
theorem laidOut : laidOutB Try.prog = true := by kernel_rfl
set_option maxRecDepth 100000 in
theorem lifted (os : Os) (started : os.Started) (H : Type) (enc : TypeId × Value → H) :
    ReturnsInHanded {} Try.checked os 3 .any (Rows.keyOrderSpec.pre6 enc Try.prog Try.f3 Rows.keyOrderRow.domain false) (Rows.keyOrderSpec.post enc Try.prog Try.f3 false true false false) := by
  refine returnsInHanded_of_change_sized (C := Try.checked) own started (by kernel_rfl) Try.func3
    (ChangeSpec.witness6 (enc := enc) (C := Try.checked) false ⟨#[], #[.agg #[.string ByteArray.empty, .int .i64 0, .int .i64 0], .agg #[.string ByteArray.empty, .int .i64 0, .int .i64 0], .agg #[.string ByteArray.empty, .int .i64 0, .int .i64 0]], []⟩ 8 (by kernel_rfl) (by kernel_rfl) (by kernel_rfl) (by kernel_rfl)) ?_
  intro W base args ds gs before hval0 hW hcnd hsz0 _
  have hval : ∀ (j : Nat) t v, Try.f3.params[j]? = some t → args[j]? = some v → Value.okWide Try.prog W .any base t v := hval0
  have hW' := hW
  obtain ⟨p, q, hA0, hV, rfl, hfz, hnd⟩ := hW
  have hA : DataW.TrodAll enc Try.prog W 0 (fun _ => true) true Try.f3.params.toList args.toList ds p := hA0
  rw [Try.params3] at hA hval
  obtain ⟨v0, vs0, d0, ds0, p0, q0, hargs, rfl, rfl, h0, r0⟩ := trodAll_cons hA
  obtain ⟨v1, vs1, d1, ds1, p1, q1, rfl, rfl, rfl, h1, r1⟩ := trodAll_cons r0
  obtain ⟨v2, vs2, d2, ds2, p2, q2, rfl, rfl, rfl, h2, r2⟩ := trodAll_cons r1
  obtain ⟨rfl, rfl, rfl⟩ := trodAll_nil r2
  obtain rfl : args = #[v0, v1, v2] := by cases args; simp_all
  obtain ⟨rfl, rfl⟩ := trodVars_none hV
  have m0 := h0
  have lt0 : ∀ x ∈ p0, x.block < W.heap.size := by obtain ⟨m_, hm_⟩ := m0; exact DataW.trod_lt m_ _ _ _ hm_
  obtain ⟨y0, V0, _⟩ := open_arg (n := 8) (ty := KO.KeyT) (show tyOf Try.prog 8 23 = some KO.KeyT by kernel_rfl) (hval 0 23 v0 rfl rfl) h0
  have m1 := h1
  have lt1 : ∀ x ∈ p1, x.block < W.heap.size := by obtain ⟨m_, hm_⟩ := m1; exact DataW.trod_lt m_ _ _ _ hm_
  obtain ⟨y1, V1, _⟩ := open_arg (n := 8) (ty := KO.KeyT) (show tyOf Try.prog 8 23 = some KO.KeyT by kernel_rfl) (hval 1 23 v1 rfl rfl) h1
  have m2 := h2
  have lt2 : ∀ x ∈ p2, x.block < W.heap.size := by obtain ⟨m_, hm_⟩ := m2; exact DataW.trod_lt m_ _ _ _ hm_
  obtain ⟨y2, V2, _⟩ := open_arg (n := 8) (ty := KO.KeyT) (show tyOf Try.prog 8 23 = some KO.KeyT by kernel_rfl) (hval 2 23 v2 rfl rfl) h2
  have hcon : Contract Try.prog (.one none .bool) 3 [argAV KO.KeyT y0, argAV KO.KeyT y1, argAV KO.KeyT y2] true := callN_contract KO.bok (KO.s3 y0 y1 y2)
  refine (hcon.truth (vargs := [v0, v1, v2]) ⟨V0, V1, V2, trivial⟩).mono fun e W' hE => ?_
  obtain ⟨he, bel⟩ := hE
  subst he
  exact ⟨_, rfl, _, _, _, [], _, [], hW', trodAll_mk1 (shut_bool Try.underlying4 _), (trodAll_cons_mk (Below.trod laidOut (by kernel_rfl) (of_decide_eq_true (by kernel_rfl)) m0 bel lt0) (trodAll_cons_mk (Below.trod laidOut (by kernel_rfl) (of_decide_eq_true (by kernel_rfl)) m1 bel lt1) (trodAll_cons_mk (Below.trod laidOut (by kernel_rfl) (of_decide_eq_true (by kernel_rfl)) m2 bel lt2) trodAll_mk0))), rfl, bel.frame _, fun h => by cases h⟩
theorem over : Rows.keyOrderRow.holds Try.pinned (OpenSpec.ofChange Rows.keyOrderSpec) :=
  OpenClaim.holds_of_wide 3 Try.f3 rfl rfl rfl rfl rfl rfl rfl ⟨rfl, rfl, rfl, rfl, rfl⟩ rfl rfl rfl rfl rfl (by kernel_rfl) Try.func3 (by kernel_rfl)
    (of_decide_eq_true (by kernel_rfl)) (by unfold Func.isWrapper; first | (rw [if_pos (by decide +kernel)]; kernel_rfl) | (rw [if_neg (by decide +kernel)]; exact ⟨rfl, rfl⟩))
    (fun os started H enc _ => lifted os started H enc)
theorem proved : Rows.KeyOrderSaid := over
end Go.Proofs.Ytcglkacplbeakaa.keyOrder
namespace Go.Proofs.Ytcglkacplbeakaa
/-- The row, under a short name, for the claim. -/
theorem keyOrder_holds : Rows.KeyOrderSaid := keyOrder.proved
end Go.Proofs.Ytcglkacplbeakaa
