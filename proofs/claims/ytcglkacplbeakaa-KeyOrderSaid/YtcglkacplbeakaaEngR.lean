/- ENGINE, part R: a region, in whatever order its edges allow. -/
import Derived.Test.YtcglkacplbeakaaEngQ
namespace Go.Eng
open Go Go.RowKit
section
variable {R : Type} {Γ : Ctx} {ops : Array Oper} {base : Nat}
theorem aOps_nat {K : St → Option R} : ∀ (l : List Nat) (s : St), aOps Γ ops base l s K = (aOps Γ ops base l s some).bind K
  | [], s => rfl
  | i :: l, s => by
    simp only [aOps, fNat_eq, fSt_eq]
    cases ho : ops[i]? with
    | none => rfl
    | some o =>
      simp only
      rw [aGuard_nat (K := fun s' => aOps Γ ops base l s' K), aGuard_nat (K := fun s' => aOps Γ ops base l s' some), Option.bind_assoc]
      congr 1
      funext s'
      exact aOps_nat l s'
theorem aOps_cons {i : Nat} {o : Oper} (ho : ops[i]? = some o) (l : List Nat) (s : St) : aOps Γ ops base (i :: l) s some = (aGuard Γ ops (base + i) o s some).bind fun s' => aOps Γ ops base l s' some := by
  simp only [aOps, ho, fNat_eq, fSt_eq]
  exact aGuard_nat
/-- What waits for nothing that stands ahead of it may come first. -/
theorem move_front {i : Nat} {o : Oper} (ho : ops[i]? = some o) {send : St} : ∀ (pre post : List Nat) (s : St), aOps Γ ops base (pre ++ i :: post) s some = some send →
    (∀ y ∈ pre, ∃ oy, ops[y]? = some oy ∧ oy.apart ops o = true ∧ clsFree (clsOf Γ oy) (clsOf Γ o) = true) →
    ∃ s', aGuard Γ ops (base + i) o s some = some s' ∧ aOps Γ ops base (pre ++ post) s' some = some send
  | [], post, s, h, _ => by
    rw [List.nil_append, aOps_cons ho] at h
    exact bind_some h
  | y :: pre, post, s, h, hp => by
    obtain ⟨oy, hoy, ha, hc⟩ := hp y List.mem_cons_self
    rw [List.cons_append, aOps_cons hoy] at h
    obtain ⟨s1, h1, h2⟩ := bind_some h
    obtain ⟨s2, h3, h4⟩ := move_front ho pre post s1 h2 (fun z hz => hp z (List.mem_cons_of_mem _ hz))
    obtain ⟨s1', h5, h6⟩ := comm ha hc h1 h3
    refine ⟨s1', h5, ?_⟩
    rw [List.cons_append, aOps_cons hoy, h6]
    exact h4
end
section
variable {R : Type} {Γ : Ctx} {w0 : World} {Nin D : Nat → Prop} {s : St} {m : Mp} {a : Act} {w : World} {ops : Array Oper} {o : Oper} {K : St → Option R} {r : R} {Q : Exit → Act → World → Prop} {n i base : Nat}
theorem guard_sound (hΓ : CallsOk Γ) (ho : ops[i]? = some o) (hn : ¬ D n) (h : aGuard Γ ops n o s K = some r) (hi : Inv w0 Nin D s m a w) :
    wpOp Γ.P ops Q i (Post K r w0 Nin (fun k => D k ∨ k = n)) a w := by
  unfold wpOp
  rw [ho]
  simp only
  unfold aGuard at h
  split at h
  · rename_i hg
    have hw : Region.wanted o (yielded ops a.tmps) = true := by simp [Region.wanted, hg]
    rw [if_pos hw]
    exact .inl (aOp_sound hn hΓ h hi)
  · rename_i j want hg
    split at h
    · cases h
    · rename_i g hd
      split at h
      · rename_i b hb
        obtain ⟨hlt, hget⟩ := getD_lt hb (by simp)
        have hlt' : g < a.tmps.size := by rw [hi.tlen]; exact hlt
        have hv := hi.tmps g _ _ hget (Array.getElem?_eq_getElem hlt')
        have hv' := V_bool hv
        have hy : yielded ops a.tmps j = some b := by
          unfold yielded
          rw [hd]
          simp only [Option.bind_some, Array.getElem?_eq_getElem hlt', hv']
        cases hbw : (b : Bool) == want with
        | true =>
          have hbe : b = want := by simpa using hbw
          subst hbe
          rw [hbw] at h
          simp only [cond_true] at h
          rw [self_put hb (by simp)] at h
          rw [if_pos (by simp [Region.wanted, hg, hy])]
          exact .inl (aOp_sound hn hΓ h hi)
        | false =>
          have hbe : b = !want := by cases b <;> cases want <;> first | rfl | (cases hbw)
          rw [hbw] at h
          simp only [cond_false] at h
          rw [self_put (by rw [hb, hbe]) (by simp)] at h
          rw [if_neg (by rw [hbe] at hy; cases want <;> simp [Region.wanted, hg, hy])]
          exact ⟨_, m, h, (hi.put o.dst (x := .raw undef) rfl).wider (fun _ hk => .inl hk)⟩
      · rename_i vs hb
        obtain ⟨hlt, hget⟩ := getD_lt hb (by simp)
        have hlt' : g < a.tmps.size := by rw [hi.tlen]; exact hlt
        have hv := hi.tmps g _ _ hget (Array.getElem?_eq_getElem hlt')
        have hv' : a.tmps[g] = .tuple vs := hv
        have hy : yielded ops a.tmps j = none := by
          unfold yielded
          rw [hd]
          simp only [Option.bind_some, Array.getElem?_eq_getElem hlt', hv']
        rw [if_neg (by simp [Region.wanted, hg, hy])]
        exact ⟨_, m, h, (hi.put o.dst (x := .raw undef) rfl).wider (fun _ hk => .inl hk)⟩
      · cases h
theorem seq_sound (hΓ : CallsOk Γ) : ∀ (l : List Nat) {D : Nat → Prop} {s : St} {m : Mp} {a : Act} {w : World}, aOps Γ ops base l s K = some r → (∀ i ∈ l, ¬ D (base + i)) → l.Nodup → Inv w0 Nin D s m a w →
    (∀ a' w', Post K r w0 Nin (fun k => D k ∨ ∃ i ∈ l, k = base + i) a' w' → Q .normal a' w') → wpOps Γ.P ops Q l a w
  | [], D, s, m, a, w, h, _, _, hi, hQ => hQ a w ⟨s, m, h, hi.wider (fun _ hk => .inl hk)⟩
  | i :: l, D, s, m, a, w, h, hl, hnd, hi, hQ => by
    rw [wpOps_cons]
    simp only [aOps, fNat_eq, fSt_eq] at h
    cases ho : ops[i]? with
    | none => rw [ho] at h; cases h
    | some o =>
      rw [ho] at h
      have hnd' := List.nodup_cons.1 hnd
      refine wpOp_mono (fun a' w' hp => ?_) (guard_sound (D := D) hΓ ho (hl i List.mem_cons_self) h hi)
      obtain ⟨s', m', h1, h2⟩ := hp
      refine seq_sound hΓ l h1 (fun j hj hD => ?_) hnd'.2 h2 (fun a'' w'' hp => hQ a'' w'' (hp.wider fun k hk => ?_))
      · rcases hD with hD | hD
        · exact hl j (List.mem_cons_of_mem _ hj) hD
        · have : j = i := by omega
          exact hnd'.1 (this ▸ hj)
      · rcases hk with (hk | hk) | ⟨j, hj, hk⟩
        · exact .inl hk
        · exact .inr ⟨i, List.mem_cons_self, hk⟩
        · exact .inr ⟨j, List.mem_cons_of_mem _ hj, hk⟩
/-! ### any order -/
theorem masksOf_app : ∀ (l : List Oper) (ms : List Nat), ∃ t, masksOf l ms = ms ++ t
  | [], ms => ⟨[], by simp [masksOf]⟩
  | o :: l, ms => by
    obtain ⟨t, ht⟩ := masksOf_app l (ms ++ [edgeMask ms o.after.toList])
    exact ⟨_, by rw [masksOf, ht, List.append_assoc]⟩
theorem masksOf_get : ∀ (l : List Oper) (ms : List Nat) (i : Nat) (o : Oper), l[i]? = some o → (masksOf l ms).getD (ms.length + i) 0 = edgeMask ((masksOf l ms).take (ms.length + i)) o.after.toList
  | [], _, _, _, h => by simp at h
  | o :: l, ms, 0, o', h => by
    simp only [List.getElem?_cons_zero, Option.some.injEq] at h
    subst h
    obtain ⟨t, ht⟩ := masksOf_app l (ms ++ [edgeMask ms o.after.toList])
    rw [masksOf, ht, Nat.add_zero]
    simp
  | o :: l, ms, i + 1, o', h => by
    rw [List.getElem?_cons_succ] at h
    have := masksOf_get l (ms ++ [edgeMask ms o.after.toList]) i o' h
    rw [List.length_append, List.length_singleton] at this
    rw [masksOf, show ms.length + (i + 1) = ms.length + 1 + i by omega]
    exact this
theorem edgeMask_bit : ∀ (es : List Edge) (ms : List Nat) (y : Nat), hasBit (edgeMask ms es) y = true → ∃ e ∈ es, Region.binds .any e = true ∧ (y = e.on ∨ hasBit (ms.getD e.on 0) y = true)
  | [], ms, y, h => by simp [edgeMask, hasBit] at h
  | e :: es, ms, y, h => by
    simp only [edgeMask] at h
    split at h
    · rename_i hb
      unfold hasBit at h
      rw [Nat.testBit_or, Nat.testBit_or, Bool.or_eq_true, Bool.or_eq_true] at h
      rcases h with (h | h) | h
      · rw [Nat.testBit_two_pow] at h
        exact ⟨e, List.mem_cons_self, hb, .inl (of_decide_eq_true h).symm⟩
      · exact ⟨e, List.mem_cons_self, hb, .inr h⟩
      · obtain ⟨e', h1, h2⟩ := edgeMask_bit es ms y h
        exact ⟨e', List.mem_cons_of_mem _ h1, h2⟩
    · obtain ⟨e', h1, h2⟩ := edgeMask_bit es ms y h
      exact ⟨e', List.mem_cons_of_mem _ h1, h2⟩
theorem pairs_get {masks : List Nat} : ∀ (l : List (Oper × Nat)), pairsOk Γ ops masks l = true → ∀ o i, (o, i) ∈ l → edgesBack o i = true ∧ ∀ y j, (y, j) ∈ ops.toList.zipIdx → j < i → hasBit (masks.getD i 0) j = true ∨ (Oper.apart ops y o = true ∧ clsFree (clsOf Γ y) (clsOf Γ o) = true)
  | [], _, _, _, h => by cases h
  | (o', i') :: l, h, o, i, hm => by
    simp only [pairsOk, Bool.and_eq_true] at h
    rcases List.mem_cons.1 hm with he | hm
    · simp only [Prod.mk.injEq] at he
      obtain ⟨rfl, rfl⟩ := he
      refine ⟨h.1.1, fun y j hy hji => ?_⟩
      have := List.all_eq_true.1 h.1.2 (y, j) hy
      simp only [Bool.or_eq_true, Bool.not_eq_true', Bool.and_eq_true] at this
      rcases this with (h1 | h1) | h1
      · have : Nat.blt j i = true := Nat.ble_eq_true_of_le hji
        rw [this] at h1; cases h1
      · exact .inl h1
      · exact .inr h1
    · exact pairs_get l h.2 o i hm
def remaining (ops : Array Oper) (listed : Array Bool) : List Nat := (List.range ops.size).filter fun i => !listed.getD i true
theorem mem_zipIdx {i : Nat} {o : Oper} (ho : ops[i]? = some o) : (o, i) ∈ ops.toList.zipIdx := by
  rw [List.mem_zipIdx_iff_getElem?]
  simpa using ho
theorem any_sound (hΓ : CallsOk Γ) (hok : regionOk Γ ops = true) (hD0 : ∀ i, i < ops.size → ¬ D (base + i)) {send : St} (hK : K send = some r)
    (hQ : ∀ a' w', Post K r w0 Nin (fun k => D k ∨ ∃ i, i < ops.size ∧ k = base + i) a' w' → Q .normal a' w') :
    ∀ (fuel : Nat) (listed : Array Bool) (s : St) (m : Mp) (a : Act) (w : World), listed.size = ops.size → (remaining ops listed).length = fuel → (∀ j, j < ops.size → listed.getD j true = true → ∀ o, ops[j]? = some o → ∀ e ∈ o.after.toList, Region.binds .any e = true → listed.getD e.on false = true) →
      aOps Γ ops base (remaining ops listed) s some = some send → Inv w0 Nin (fun k => D k ∨ ∃ i, i < ops.size ∧ listed.getD i true = true ∧ k = base + i) s m a w → wpAny Γ.P .any ops Q fuel listed a w := by
  intro fuel
  induction fuel with
  | zero =>
    intro listed s m a w _ hlen _ hrun hi
    have hnil : remaining ops listed = [] := List.eq_nil_of_length_eq_zero hlen
    rw [hnil] at hrun
    have hs : s = send := by simpa [aOps] using hrun
    refine ⟨?_, hQ a w ⟨s, m, hs ▸ hK, hi.wider (fun k hk => hk.imp id fun ⟨i, h1, _, h3⟩ => ⟨i, h1, h3⟩)⟩⟩
    unfold Region.ready
    rw [List.filter_eq_nil_iff]
    intro i hir hc
    have : i ∈ remaining ops listed := List.mem_filter.2 ⟨hir, by simp only [Bool.and_eq_true] at hc; exact hc.1⟩
    rw [hnil] at this
    cases this
  | succ fuel ih =>
    intro listed s m a w hsz hlen hclosed hrun hi
    have hpairs := pairs_get (Γ := Γ) (ops := ops) (masks := masksOf ops.toList []) ops.toList.zipIdx hok
    have hget : ∀ i, i < ops.size → ∃ o, ops[i]? = some o := fun i hlt => ⟨ops[i], Array.getElem?_eq_getElem hlt⟩
    have hback : ∀ i o, ops[i]? = some o → ∀ e ∈ o.after.toList, Region.binds .any e = true → e.on < i := by
      intro i o ho e he hb
      have h1 := (hpairs o i (mem_zipIdx ho)).1
      unfold edgesBack at h1
      have := List.all_eq_true.1 h1 e he
      simp only [Bool.or_eq_true, Bool.not_eq_true', hb, Bool.true_eq_false, false_or] at this
      exact Nat.le_of_ble_eq_true this
    -- what the masks name is listed
    have hmask : ∀ j, j < ops.size → (∀ o, ops[j]? = some o → ∀ e ∈ o.after.toList, Region.binds .any e = true → listed.getD e.on false = true) → ∀ y, hasBit ((masksOf ops.toList []).getD j 0) y = true → listed.getD y false = true := by
      intro j
      induction j using Nat.strongRecOn with
      | _ j ihj =>
        intro hj hdir y hy
        obtain ⟨o, ho⟩ := hget j hj
        have hg := masksOf_get ops.toList [] j o (by simpa using ho)
        simp only [List.length_nil, Nat.zero_add] at hg
        rw [hg] at hy
        obtain ⟨e, he, hb, h1⟩ := edgeMask_bit _ _ y hy
        have hlt := hback j o ho e he hb
        rcases h1 with rfl | h1
        · exact hdir o ho e he hb
        · have hl := hdir o ho e he hb
          have htake : ((masksOf ops.toList []).take j).getD e.on 0 = (masksOf ops.toList []).getD e.on 0 := by
            rw [List.getD_eq_getElem?_getD, List.getD_eq_getElem?_getD, List.getElem?_take, if_pos hlt]
          rw [htake] at h1
          refine ihj e.on hlt (by omega) (fun o' ho' e' he' hb' => ?_) y h1
          have hlt' : e.on < listed.size := by omega
          refine hclosed e.on (by omega) ?_ o' ho' e' he' hb'
          rw [Array.getD_eq_getD_getElem?, Array.getElem?_eq_getElem hlt'] at hl ⊢
          exact hl
    refine ⟨fun hnone => ?_, fun i hir => ?_⟩
    · -- the first one that is left is ready
      exfalso
      cases hrem : remaining ops listed with
      | nil => rw [hrem] at hlen; cases hlen
      | cons i0 rest =>
        have hmem : i0 ∈ remaining ops listed := by rw [hrem]; exact List.mem_cons_self
        obtain ⟨h1, h2⟩ := List.mem_filter.1 hmem
        have hlt : i0 < ops.size := List.mem_range.1 h1
        obtain ⟨o, ho⟩ := hget i0 hlt
        have hready : i0 ∈ Region.ready .any ops listed := by
          unfold Region.ready
          refine List.mem_filter.2 ⟨h1, ?_⟩
          rw [Bool.and_eq_true]
          refine ⟨h2, ?_⟩
          rw [ho]
          simp only [Option.map_some, Option.getD_some]
          rw [Array.all_eq_true_iff_forall_mem]
          intro e he
          simp only [Bool.or_eq_true, Bool.not_eq_true']
          cases hb : Region.binds .any e with
          | false => exact .inl rfl
          | true =>
            right
            have hlt' := hback i0 o ho e (by simpa using he) hb
            -- smaller than the first that is left: listed
            by_cases hl : listed.getD e.on false = true
            · exact hl
            · exfalso
              have hlt'' : e.on < listed.size := by omega
              have hin : e.on ∈ remaining ops listed := by
                refine List.mem_filter.2 ⟨List.mem_range.2 (by omega), ?_⟩
                rw [Array.getD_eq_getD_getElem?, Array.getElem?_eq_getElem hlt''] at hl ⊢
                simpa using hl
              have hsorted : (remaining ops listed).Pairwise (· < ·) := List.Pairwise.filter _ List.pairwise_lt_range
              rw [hrem] at hin hsorted
              rcases List.mem_cons.1 hin with he' | hin
              · omega
              · have := (List.pairwise_cons.1 hsorted).1 _ hin; omega
        rw [hnone] at hready
        cases hready
    · obtain ⟨h1, h2⟩ := List.mem_filter.1 hir
      have hlt : i < ops.size := List.mem_range.1 h1
      obtain ⟨o, ho⟩ := hget i hlt
      rw [Bool.and_eq_true] at h2
      obtain ⟨h2, h3⟩ := h2
      rw [ho] at h3
      simp only [Option.map_some, Option.getD_some] at h3
      have hdir : ∀ e ∈ o.after.toList, Region.binds .any e = true → listed.getD e.on false = true := by
        intro e he hb
        have := (Array.all_eq_true_iff_forall_mem.1 h3) e (by simpa using he)
        simp only [Bool.or_eq_true, Bool.not_eq_true', hb, Bool.true_eq_false, false_or] at this
        exact this
      have hlt' : i < listed.size := by omega
      have hmem : i ∈ remaining ops listed := List.mem_filter.2 ⟨h1, h2⟩
      obtain ⟨pre, post, hsplit⟩ := List.append_of_mem hmem
      have hsorted : (remaining ops listed).Pairwise (· < ·) := List.Pairwise.filter _ List.pairwise_lt_range
      rw [hsplit] at hrun hsorted
      have hpre : ∀ y ∈ pre, y < i := fun y hy => (List.pairwise_append.1 hsorted).2.2 y hy i List.mem_cons_self
      have hpost : ∀ y ∈ post, i < y := fun y hy => (List.pairwise_cons.1 (List.pairwise_append.1 hsorted).2.1).1 y hy
      obtain ⟨s', h4, h5⟩ := move_front ho pre post s hrun (fun y hy => by
        have hy' : y ∈ remaining ops listed := by rw [hsplit]; exact List.mem_append_left _ hy
        obtain ⟨hy1, hy2⟩ := List.mem_filter.1 hy'
        have hylt : y < ops.size := List.mem_range.1 hy1
        obtain ⟨oy, hoy⟩ := hget y hylt
        refine ⟨oy, hoy, ?_⟩
        rcases (hpairs o i (mem_zipIdx ho)).2 oy y (mem_zipIdx hoy) (hpre y hy) with hb | hb
        · exfalso
          have := hmask i hlt (fun o' ho' e he hb' => by rw [ho] at ho'; cases ho'; exact hdir e he hb') y hb
          have hyl : y < listed.size := by omega
          rw [Array.getD_eq_getD_getElem?, Array.getElem?_eq_getElem hyl] at this hy2
          simp only [Option.getD_some] at this hy2
          rw [this] at hy2
          cases hy2
        · exact hb)
      have hnD : ¬ (D (base + i) ∨ ∃ k, k < ops.size ∧ listed.getD k true = true ∧ base + i = base + k) := by
        rintro (hd | ⟨k, _, hk, he⟩)
        · exact hD0 i hlt hd
        · have : k = i := by omega
          subst this
          rw [hk] at h2; cases h2
      refine wpOp_mono (fun a' w' hp => ?_) (guard_sound (K := some) (r := s') (Q := Q) hΓ ho hnD h4 hi)
      obtain ⟨s'', m', he, hi'⟩ := hp
      have hs : s'' = s' := Option.some.inj he
      subst hs
      have hset : ∀ k, (listed.setIfInBounds i true).getD k true = (if k = i then true else listed.getD k true) := by
        intro k
        rw [Array.getD_eq_getD_getElem?, Array.getElem?_setIfInBounds]
        by_cases hk : i = k
        · subst hk; simp [hlt']
        · rw [if_neg hk, if_neg (fun h => hk h.symm), Array.getD_eq_getD_getElem?]
      have hset' : ∀ k, (listed.setIfInBounds i true).getD k false = (if k = i then true else listed.getD k false) := by
        intro k
        rw [Array.getD_eq_getD_getElem?, Array.getElem?_setIfInBounds]
        by_cases hk : i = k
        · subst hk; simp [hlt']
        · rw [if_neg hk, if_neg (fun h => hk h.symm), Array.getD_eq_getD_getElem?]
      have hrem' : remaining ops (listed.setIfInBounds i true) = pre ++ post := by
        have e1 : remaining ops (listed.setIfInBounds i true) = (remaining ops listed).filter (fun k => k != i) := by
          unfold remaining
          rw [List.filter_filter]
          apply List.filter_congr
          intro k _
          rw [hset k]
          by_cases hk : k = i
          · subst hk; simp
          · simp [hk]
        rw [e1, hsplit, List.filter_append, List.filter_cons]
        simp only [bne_self_eq_false, Bool.false_eq_true, if_false]
        rw [List.filter_eq_self.2 (fun y hy => by have := hpre y hy; simp; omega), List.filter_eq_self.2 (fun y hy => by have := hpost y hy; simp; omega)]
      refine ih _ s'' m' a' w' (by rw [Array.size_setIfInBounds]; exact hsz) ?_ ?_ (by rw [hrem']; exact h5) ?_
      · rw [hrem']
        rw [hsplit] at hlen
        simp only [List.length_append, List.length_cons] at hlen ⊢
        omega
      · intro j hj hjl o' ho' e he hb
        rw [hset']
        by_cases hei : e.on = i
        · rw [if_pos hei]
        · rw [if_neg hei]
          rw [hset] at hjl
          by_cases hji : j = i
          · subst hji
            rw [ho] at ho'
            cases ho'
            exact hdir e he hb
          · rw [if_neg hji] at hjl
            exact hclosed j hj hjl o' ho' e he hb
      · refine hi'.wider (fun k hk => ?_)
        rcases hk with (hk | ⟨j, hj1, hj2, hj3⟩) | hk
        · exact .inl hk
        · refine .inr ⟨j, hj1, ?_, hj3⟩
          rw [hset]; split
          · rfl
          · exact hj2
        · exact .inr ⟨i, hlt, by rw [hset, if_pos rfl], hk⟩
end
end Go.Eng
