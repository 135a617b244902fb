/- RefsAll: the tied card, by the engine. Condition: the listed library variables read as their initialisers lay them (the card ties that to the text). -/
import Derived.Test.YtbnkagiikibjpaaDoorRbe
import Derived.Test.YtbnkagiikibjpaaDoorCards
import Derived.Test.YtbnkagiikibjpaaDoorTie
import Derived.WalkKit
import Derived.ProofKit
import Derived.OpenShut
import Derived.ShutString
import Derived.Below
import Derived.Deep.DeepHandedRow
import Derived.SevenTiedAt
namespace Go.Proofs.YtbnkagiikibjpaaDoor.refsAll
open Go.ChangeShapes Go.WideShapes Go.ChangeAt Go.RowKit Go.Eng
open Go.ChangeMaps (open_string shut_string)
theorem own : ownKnob Tryd.prog.godebug = none := by kernel_rfl
theorem laidOut : laidOutB Tryd.prog = true := by kernel_rfl
theorem opt_mid {α β γ : Type} {o : Option (α × List β × γ)} (h : o.isSome = true) (e : (o.get h).2.1 = []) : o = some ((o.get h).1, [], (o.get h).2.2) := by
  obtain ⟨⟨a, b, c⟩, rfl⟩ := Option.isSome_iff_exists.1 h
  have e1 : b = [] := e
  rw [e1]; rfl
noncomputable abbrev rd (os : Os) {H : Type} (enc : TypeId × Value → H) := DataW.whole enc Tryd.prog ((Bk.laidWorld os).forCall (fun _ _ => 0) ⟨#[], #[.slice none 0 0, .slice none 0 0, .string ⟨#[]⟩, .int .i64 0, .string ⟨#[]⟩, .slice none 0 0, .int .i64 0], []⟩).memory Tryd.f6.params.toList Rows.refsAllSpec.vars false (#[.slice none 0 0, .slice none 0 0, .string ⟨#[]⟩, .int .i64 0, .string ⟨#[]⟩, .slice none 0 0, .int .i64 0] : Array Value).toList 8
theorem rd_some (os : Os) {H : Type} (enc : TypeId × Value → H) : (rd os enc).isSome = true := by kernel_rfl
theorem reads (os : Os) {H : Type} (enc : TypeId × Value → H) : rd os enc = some (((rd os enc).get (rd_some os enc)).1, [], ((rd os enc).get (rd_some os enc)).2.2) := by
  exact opt_mid (rd_some os enc) (by kernel_rfl)
set_option maxRecDepth 100000 in
theorem lifted (os : Os) (started : os.Started) (H : Type) (enc : TypeId × Value → H) (F : Stop.Interp) :
    ReturnsInHanded {} Tryd.checked os 6 .any ((OpenSpec.ofChange Rows.refsAllSpec).preRow enc Tryd.prog Tryd.f6 Rows.refsAllRow.domain false Rows.refsAllRow.laid) (((OpenSpec.ofChange Rows.refsAllSpec).at F).post enc Tryd.prog Tryd.f6 false true false false) := by
  refine returnsInHanded_of_row (C := Tryd.checked) (s := OpenSpec.ofChange Rows.refsAllSpec) own started (by kernel_rfl) Tryd.func6
    (witness_row_at (enc := enc) (C := Tryd.checked) false (Bk.laidWorld os) #[.slice none 0 0, .slice none 0 0, .string ⟨#[]⟩, .int .i64 0, .string ⟨#[]⟩, .slice none 0 0, .int .i64 0] rfl (by kernel_rfl) (by kernel_rfl) (by kernel_rfl)
      (OpenSpec.preRow_of_cond 8 (reads os enc) (by kernel_rfl) (fun k hk => by cases hk) (by kernel_rfl) (Bk.laid_met os _))) ?_
  intro W base args ds gs before hval0 hW0 hcnd _ _ hL hsh _
  have hok := Bk.ok_laid hL hsh
  have hval : ∀ (j : Nat) t v, Tryd.f6.params[j]? = some t → args[j]? = some v → Value.okWide Tryd.prog W .any base t v := hval0
  have hW : DataW.Whole enc Tryd.prog Tryd.f6.params.toList Rows.refsAllSpec.vars false W args.toList ds gs before := hW0
  have hW' := hW
  obtain ⟨p, q, hA0, hV, rfl, hfz, hnd⟩ := hW
  have hA : DataW.TrodAll enc Tryd.prog W 0 (fun _ => true) true Tryd.f6.params.toList args.toList ds p := hA0
  rw [Tryd.params6] at hA hval
  obtain ⟨v0, vs0, d0, ds0, p0, q0, hargs, rfl, rfl, h0, r0⟩ := trodAll_cons hA
  obtain ⟨v1, vs1, d1, ds1, p1, q1, rfl, rfl, rfl, h1, r1⟩ := trodAll_cons r0
  obtain ⟨v2, vs2, d2, ds2, p2, q2, rfl, rfl, rfl, h2, r2⟩ := trodAll_cons r1
  obtain ⟨v3, vs3, d3, ds3, p3, q3, rfl, rfl, rfl, h3, r3⟩ := trodAll_cons r2
  obtain ⟨v4, vs4, d4, ds4, p4, q4, rfl, rfl, rfl, h4, r4⟩ := trodAll_cons r3
  obtain ⟨v5, vs5, d5, ds5, p5, q5, rfl, rfl, rfl, h5, r5⟩ := trodAll_cons r4
  obtain ⟨v6, vs6, d6, ds6, p6, q6, rfl, rfl, rfl, h6, r6⟩ := trodAll_cons r5
  obtain ⟨rfl, rfl, rfl⟩ := trodAll_nil r6
  obtain rfl : args = #[v0, v1, v2, v3, v4, v5, v6] := by cases args; simp_all
  obtain ⟨rfl, rfl⟩ := trodVars_none hV
  have m0 := h0
  have lt0 : ∀ x ∈ p0, x.block < W.heap.size := by obtain ⟨m_, hm_⟩ := m0; exact DataW.trod_lt m_ _ _ _ hm_
  obtain ⟨y0, V0, w0⟩ := open_arg (n := 8) (ty := (.sl (.int .u8))) (show tyOf Tryd.prog 8 33 = some (.sl (.int .u8)) by kernel_rfl) (hval 0 33 v0 rfl rfl) h0
  have m1 := h1
  have lt1 : ∀ x ∈ p1, x.block < W.heap.size := by obtain ⟨m_, hm_⟩ := m1; exact DataW.trod_lt m_ _ _ _ hm_
  obtain ⟨y1, V1, w1⟩ := open_arg (n := 8) (ty := (.sl (.int .u8))) (show tyOf Tryd.prog 8 33 = some (.sl (.int .u8)) by kernel_rfl) (hval 1 33 v1 rfl rfl) h1
  have m2 := h2
  have lt2 : ∀ x ∈ p2, x.block < W.heap.size := by obtain ⟨m_, hm_⟩ := m2; exact DataW.trod_lt m_ _ _ _ hm_
  obtain ⟨y2, V2, w2⟩ := open_arg (n := 8) (ty := .str) (show tyOf Tryd.prog 8 9 = some .str by kernel_rfl) (hval 2 9 v2 rfl rfl) h2
  have m3 := h3
  have lt3 : ∀ x ∈ p3, x.block < W.heap.size := by obtain ⟨m_, hm_⟩ := m3; exact DataW.trod_lt m_ _ _ _ hm_
  obtain ⟨y3, V3, w3⟩ := open_arg (n := 8) (ty := (.int .i64)) (show tyOf Tryd.prog 8 3 = some (.int .i64) by kernel_rfl) (hval 3 3 v3 rfl rfl) h3
  have m4 := h4
  have lt4 : ∀ x ∈ p4, x.block < W.heap.size := by obtain ⟨m_, hm_⟩ := m4; exact DataW.trod_lt m_ _ _ _ hm_
  obtain ⟨y4, V4, w4⟩ := open_arg (n := 8) (ty := .str) (show tyOf Tryd.prog 8 9 = some .str by kernel_rfl) (hval 4 9 v4 rfl rfl) h4
  have m5 := h5
  have lt5 : ∀ x ∈ p5, x.block < W.heap.size := by obtain ⟨m_, hm_⟩ := m5; exact DataW.trod_lt m_ _ _ _ hm_
  obtain ⟨y5, V5, w5⟩ := open_arg (n := 8) (ty := (.sl .str)) (show tyOf Tryd.prog 8 31 = some (.sl .str) by kernel_rfl) (hval 5 31 v5 rfl rfl) h5
  have m6 := h6
  have lt6 : ∀ x ∈ p6, x.block < W.heap.size := by obtain ⟨m_, hm_⟩ := m6; exact DataW.trod_lt m_ _ _ _ hm_
  obtain ⟨y6, V6, w6⟩ := open_arg (n := 8) (ty := (.int .i64)) (show tyOf Tryd.prog 8 3 = some (.int .i64) by kernel_rfl) (hval 6 3 v6 rfl rfl) h6
  have hcon : Contract Tryd.prog (.one none .bool) 6 [argAV (.sl (.int .u8)) y0, argAV (.sl (.int .u8)) y1, argAV .str y2, argAV (.int .i64) y3, argAV .str y4, argAV (.sl .str) y5, argAV (.int .i64) y6] true := callN_contract (n := 50000000) Bk.bok (Bk.s6 (by decide) (Bk.in_bytes w0).1 (Bk.in_bytes w1).1 y2 y3 y4 y5 y6)
  refine (hcon.truth hok (vargs := [v0, v1, v2, v3, v4, v5, v6]) ⟨V0, V1, V2, V3, V4, V5, V6, trivial⟩).mono fun e W' hE => ?_
  obtain ⟨he, bel⟩ := hE
  subst he
  exact ⟨_, rfl, _, _, _, [], _, [], hW', trodAll_mk1 (shut_bool Tryd.underlying4 _), (trodAll_cons_mk (Below.trod laidOut (by kernel_rfl) (of_decide_eq_true (by kernel_rfl)) m0 bel lt0) (trodAll_cons_mk (Below.trod laidOut (by kernel_rfl) (of_decide_eq_true (by kernel_rfl)) m1 bel lt1) (trodAll_cons_mk (Below.trod laidOut (by kernel_rfl) (of_decide_eq_true (by kernel_rfl)) m2 bel lt2) (trodAll_cons_mk (Below.trod laidOut (by kernel_rfl) (of_decide_eq_true (by kernel_rfl)) m3 bel lt3) (trodAll_cons_mk (Below.trod laidOut (by kernel_rfl) (of_decide_eq_true (by kernel_rfl)) m4 bel lt4) (trodAll_cons_mk (Below.trod laidOut (by kernel_rfl) (of_decide_eq_true (by kernel_rfl)) m5 bel lt5) (trodAll_cons_mk (Below.trod laidOut (by kernel_rfl) (of_decide_eq_true (by kernel_rfl)) m6 bel lt6) trodAll_mk0))))))), rfl, bel.frame _, fun h => by cases h⟩
theorem said : Rows.RefsAllSaid :=
  OpenClaim.holds_of_cond 6 Tryd.f6 rfl rfl rfl rfl rfl rfl rfl ⟨rfl, rfl, rfl, rfl, rfl⟩ rfl rfl rfl rfl rfl (by kernel_rfl) Tryd.func6 (by kernel_rfl)
    (of_decide_eq_true (by kernel_rfl)) (by unfold Func.isWrapper; first | (rw [if_pos (by decide +kernel)]; kernel_rfl) | (rw [if_neg (by decide +kernel)]; exact ⟨rfl, rfl⟩))
    (fun os started H enc _ F => by rw [OpenClaim.pre_eq_preRow]; exact lifted os started H enc F)
theorem noStand : (Tryd.f6.params.toList.all fun t => !Tryd.prog.wantsStandIn t) = true := by kernel_rfl
theorem plain (f : FuncId) (fn : Func) (hf : Tryd.pinned.checked.prog.funcNamed Rows.refsAllRow.func = some f) (hfn : Tryd.pinned.checked.prog.funcs[f]? = some fn) :
    Rows.refsAllCard.stood.looks = Tryd.pinned.checked.prog.looks [] ∧ ∀ (j : Nat) t, fn.params[j]? = some t → Tryd.pinned.checked.prog.wantsStandIn t = false := by
  obtain rfl : f = 6 := Option.some.inj ((show Tryd.prog.funcNamed Rows.refsAllRow.func = some 6 by kernel_rfl).symm.trans hf) |>.symm
  obtain rfl : fn = Tryd.f6 := (Option.some.inj (Tryd.func6.symm.trans hfn)).symm
  refine ⟨by kernel_rfl, fun j t ht => ?_⟩
  have := List.all_eq_true.1 noStand t (by simpa using Array.mem_of_getElem? ht)
  exact (show Tryd.prog.wantsStandIn t = false by simpa using this)
theorem card : Rows.RefsAllCardSaid :=
  Claim7.holds_tied_plain_at .later [] _ _ _ _ said (fun _ h => by cases h) (by kernel_rfl) (fun _ h => by cases h) refsAll_row_tie rfl ⟨rfl, rfl⟩ (by kernel_rfl) rfl plain (by kernel_rfl)
end Go.Proofs.YtbnkagiikibjpaaDoor.refsAll
namespace Go.Proofs.YtbnkagiikibjpaaDoor
/-- The tied card, under a short name, for the claim. -/
theorem refsAll_holds : Rows.RefsAllCardSaid := refsAll.card
end Go.Proofs.YtbnkagiikibjpaaDoor
