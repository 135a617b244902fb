/- ENGINE, part R: a region, in whatever order its edges allow. -/
import Derived.Test.YtogancdiihbjfaaEngQ
namespace Go.Eng
open Go Go.RowKit
section
variable {Γ : Ctx} {ops : Array Oper} {o : Oper} {n base : Nat} {s s1 : St}
theorem aOp_len (h : aOp Γ n o s some = some s1) : s1.bx.length = s.bx.length := by
  by_cases hw : clsOf Γ o = .wr
  · obtain ⟨op, hop⟩ : ∃ op, o.op = op := ⟨_, rfl⟩
    cases op with
    | store T x y =>
      simp only [aOp, hop] at h
      split at h
      · split at h
        · split at h
          · rw [← Option.some.inj h, put_bx]; exact List.length_set
          · cases h
        · cases h
      · split at h
        · split at h
          · rw [← Option.some.inj h, put_bx]; exact List.length_map _
          · cases h
        · cases h
      · cases h
    | call c =>
      exfalso
      simp only [clsOf, hop] at hw
      split at hw <;> first | (split at hw <;> cases hw) | cases hw
    | _ => simp [clsOf, hop] at hw
  by_cases hc : clsOf Γ o = .other ∨ clsOf Γ o = .app
  · obtain ⟨op, hop⟩ : ∃ op, o.op = op := ⟨_, rfl⟩
    cases op with
    | box T x =>
      simp only [aOp, hop] at h
      split at h
      · split at h
        · rw [← Option.some.inj h, put_bx]; exact List.length_set
        · cases h
      · cases h
    | alloc T =>
      simp only [aOp, hop] at h
      split at h
      · split at h
        · split at h
          · rw [← Option.some.inj h, put_bx]; exact List.length_set
          · cases h
        · cases h
      · cases h
    | call c =>
      simp only [aOp, hop] at h
      split at h
      · split at h
        · obtain ⟨z, h1, _⟩ := callA_eff h
          rw [h1, put_bx]
        · cases h
      · rename_i hcal; simp [clsOf, hop, hcal] at hc
      · rename_i hcal; simp [clsOf, hop, hcal] at hc
      · rename_i hcal; simp [clsOf, hop, hcal] at hc
      · split at h
        · unfold appendA at h
          split at h
          · split at h
            · split at h
              · split at h
                · split at h
                  · rw [← Option.some.inj h, put_bx]
                  · cases h
                · cases h
              · split at h
                · split at h
                  · rw [← Option.some.inj h, put_bx]
                  · cases h
                · cases h
              · cases h
            · cases h
          · cases h
        · cases h
      · cases h
    | _ => simp [clsOf, hop] at hc <;> simp [aOp, hop] at h
  · obtain ⟨z, h1, _⟩ := free_eff (fun h => hc (.inl h)) hw (fun h => hc (.inr h)) h
    rw [h1, put_bx]
theorem aGuard_len (h : aGuard Γ ops n o s some = some s1) : s1.bx.length = s.bx.length := by
  rcases guard_cases h with ⟨h1, _⟩ | ⟨h1, _⟩
  · exact aOp_len h1
  · rw [h1, put_bx]
end
section
variable {R : Type} {Γ : Ctx} {ops : Array Oper} {base : Nat}
theorem aOps_nat (hΓ : CallsOk Γ) {K : St → Option R} : ∀ (l : List Nat) (base : Nat) (s : St), aOps Γ ops base l s K = (aOps Γ ops base l s some).bind K
  | [], _, s => rfl
  | i :: l, base, s => by
    simp only [aOps, fNat_eq, fSt_eq]
    cases ho : ops[i]? with
    | none => rfl
    | some o =>
      simp only
      cases hI : mayInl Γ o with
      | false =>
        simp only
        rw [aGuard_nat (K := fun s' => aOps Γ ops base l s' K), aGuard_nat (K := fun s' => aOps Γ ops base l s' some), Option.bind_assoc]
        congr 1
        funext s'
        exact aOps_nat hΓ l base s'
      | true =>
        simp only
        rw [aInl_nat hΓ (K := fun s' => aOps Γ ops s'.bx.length l { s' with bx := s'.bx ++ List.replicate ops.size none } K), aInl_nat hΓ (K := fun s' => aOps Γ ops s'.bx.length l { s' with bx := s'.bx ++ List.replicate ops.size none } some), Option.bind_assoc]
        congr 1
        funext s'
        exact aOps_nat hΓ l _ _
theorem aOps_cons {i : Nat} {o : Oper} (ho : ops[i]? = some o) (hI : mayInl Γ o = false) (l : List Nat) (s : St) : aOps Γ ops base (i :: l) s some = (aGuard Γ ops (base + i) o s some).bind fun s' => aOps Γ ops base l s' some := by
  simp only [aOps, ho, hI, fNat_eq, fSt_eq]
  exact aGuard_nat
theorem aOps_consI (hΓ : CallsOk Γ) {i : Nat} {o : Oper} (ho : ops[i]? = some o) (hI : mayInl Γ o = true) (l : List Nat) (s : St) :
    aOps Γ ops base (i :: l) s some = (aInl Γ ops o s some).bind fun s' => aOps Γ ops s'.bx.length l { s' with bx := s'.bx ++ List.replicate ops.size none } some := by
  simp only [aOps, ho, hI, fNat_eq]
  exact aInl_nat hΓ
/-- What waits for nothing that stands ahead of it may come first. -/
theorem move_front {i : Nat} {o : Oper} (ho : ops[i]? = some o) (hI : mayInl Γ o = false) {send : St} : ∀ (pre post : List Nat) (s : St), aOps Γ ops base (pre ++ i :: post) s some = some send →
    (∀ y ∈ pre, ∃ oy, ops[y]? = some oy ∧ oy.apart ops o = true ∧ clsFree (clsOf Γ oy) (clsOf Γ o) = true ∧ mayInl Γ oy = false) →
    ∃ s', aGuard Γ ops (base + i) o s some = some s' ∧ aOps Γ ops base (pre ++ post) s' some = some send
  | [], post, s, h, _ => by
    rw [List.nil_append, aOps_cons ho hI] at h
    exact bind_some h
  | y :: pre, post, s, h, hp => by
    obtain ⟨oy, hoy, ha, hc, hIy⟩ := hp y List.mem_cons_self
    rw [List.cons_append, aOps_cons hoy hIy] at h
    obtain ⟨s1, h1, h2⟩ := bind_some h
    obtain ⟨s2, h3, h4⟩ := move_front ho hI pre post s1 h2 (fun z hz => hp z (List.mem_cons_of_mem _ hz))
    obtain ⟨s1', h5, h6⟩ := comm ha hc h1 h3
    refine ⟨s1', h5, ?_⟩
    rw [List.cons_append, aOps_cons hoy hIy, h6]
    exact h4
end
section
variable {R : Type} {Γ : Ctx} {w0 : World} {Nin : Env} {D : Nat → Prop} {s : St} {m : Mp} {a : Act} {w : World} {ops : Array Oper} {o : Oper} {K : St → Option R} {r : R} {Q : Exit → Act → World → Prop} {n i base : Nat}
theorem ext_get {l : List (Option (TypeId × List AV))} {n i : Nat} {x : TypeId × List AV} : (l ++ List.replicate n none)[i]? = some (some x) ↔ l[i]? = some (some x) := by
  by_cases h : i < l.length
  · rw [List.getElem?_append_left h]
  · rw [List.getElem?_append_right (by omega), List.getElem?_replicate, List.getElem?_eq_none (by omega)]
    constructor
    · intro h; split at h <;> cases h
    · intro h; cases h
theorem ext_sound (h : Inv w0 Nin D s m a w) (n : Nat) : Inv w0 Nin D { s with bx := s.bx ++ List.replicate n none } m a w := by
  have hg : ∀ (i : Nat) (T : TypeId) (cs : List AV), (s.bx ++ List.replicate n none)[i]? = some (some (T, cs)) → s.bx[i]? = some (some (T, cs)) := fun i T cs hi => ext_get.1 hi
  have hN : ∀ b, (vw w0 Nin s m w).N b → (vw w0 Nin { s with bx := s.bx ++ List.replicate n none } m w).N b := fun b ⟨c1, c2, c3, c4⟩ => ⟨c1, c2, c3, fun i T cs hi => c4 i T cs (hg i T cs hi)⟩
  have hto : (vw w0 Nin s m w).To (vw w0 Nin { s with bx := s.bx ++ List.replicate n none } m w) :=
    ⟨rfl, fun b hb => ⟨hN b hb, rfl⟩, fun b hi hb => ⟨hb.imp (hN b) id, fun _ _ => rfl⟩, fun τ hu => ⟨hu, fun hl => ⟨hl, rfl, rfl, fun _ _ => rfl⟩⟩, fun b ⟨T, cs, hb⟩ => ⟨⟨T, cs, ext_get.2 hb⟩, rfl⟩⟩
  exact h.next (s' := { s with bx := s.bx ++ List.replicate n none }) (m' := m) rfl hto h.below h.toks h.inj
    (fun b T cs hb => by
      obtain ⟨c1, vs, c2, c3, c4⟩ := h.boxes b T cs (hg b T cs hb)
      exact ⟨c1, vs, c2, all2_imp (fun _ _ => hto.v1) _ _ c3, c4⟩)
    (fun b T cs b' T' cs' hb hb' he => h.binj b T cs b' T' cs' (hg b T cs hb) (hg b' T' cs' hb') he)
    (fun τ k b T cs hl hG hb => h.sep τ k b T cs hl hG (hg b T cs hb)) h.uD (fun b T cs hb => h.bD b T cs (hg b T cs hb)) h.liveU
theorem guard_sound (hΓ : CallsOk Γ) (ho : ops[i]? = some o) (hn : ¬ D n) (h : aGuard Γ ops n o s K = some r) (hi : Inv w0 Nin D s m a w) :
    wpOp Γ.P ops Q i (Post K r w0 Nin (fun k => D k ∨ k = n)) a w := by
  unfold wpOp
  rw [ho]
  simp only
  unfold aGuard at h
  split at h
  · rename_i hg
    have hw : Region.wanted o (yielded ops a.tmps) = true := by simp [Region.wanted, hg]
    rw [if_pos hw]
    exact .inl (aOp_sound hn hΓ h hi)
  · rename_i j want hg
    split at h
    · cases h
    · rename_i g hd
      split at h
      · rename_i b hb
        obtain ⟨hlt, hget⟩ := getD_lt hb (by simp)
        have hlt' : g < a.tmps.size := by rw [hi.tlen]; exact hlt
        have hv := hi.tmps g _ _ hget (Array.getElem?_eq_getElem hlt')
        have hv' := V_bool hv
        have hy : yielded ops a.tmps j = some b := by
          unfold yielded
          rw [hd]
          simp only [Option.bind_some, Array.getElem?_eq_getElem hlt', hv']
        cases hbw : (b : Bool) == want with
        | true =>
          have hbe : b = want := by simpa using hbw
          subst hbe
          rw [hbw] at h
          simp only [cond_true] at h
          rw [self_put hb (by simp)] at h
          rw [if_pos (by simp [Region.wanted, hg, hy])]
          exact .inl (aOp_sound hn hΓ h hi)
        | false =>
          have hbe : b = !want := by cases b <;> cases want <;> first | rfl | (cases hbw)
          rw [hbw] at h
          simp only [cond_false] at h
          rw [self_put (by rw [hb, hbe]) (by simp)] at h
          rw [if_neg (by rw [hbe] at hy; cases want <;> simp [Region.wanted, hg, hy])]
          exact ⟨_, m, h, (hi.put o.dst (x := .raw undef) rfl).wider (fun _ hk => .inl hk)⟩
      · rename_i vs hb
        obtain ⟨hlt, hget⟩ := getD_lt hb (by simp)
        have hlt' : g < a.tmps.size := by rw [hi.tlen]; exact hlt
        have hv := hi.tmps g _ _ hget (Array.getElem?_eq_getElem hlt')
        have hv' : a.tmps[g] = .tuple vs := hv
        have hy : yielded ops a.tmps j = none := by
          unfold yielded
          rw [hd]
          simp only [Option.bind_some, Array.getElem?_eq_getElem hlt', hv']
        rw [if_neg (by simp [Region.wanted, hg, hy])]
        exact ⟨_, m, h, (hi.put o.dst (x := .raw undef) rfl).wider (fun _ hk => .inl hk)⟩
      · cases h
theorem inlg_sound (hΓ : CallsOk Γ) (ho : ops[i]? = some o) {s1 : St} (h : aInl Γ ops o s some = some s1) (hi : Inv w0 Nin (fun k => k < s.bx.length) s m a w) :
    wpOp Γ.P ops Q i (fun a' w' => ∃ m', Inv w0 Nin (fun k => k < s1.bx.length) s1 m' a' w') a w := by
  have go : goInl Γ o s some = some s1 → o.wp Γ.P a w (fun a' w' => ∃ m', Inv w0 Nin (fun k => k < s1.bx.length) s1 m' a' w') Q := by
    intro h
    unfold goInl at h
    split at h
    case h_2 => cases h
    rename_i f caps c hI
    rw [hΓ.nat] at h
    obtain ⟨⟨x, s'⟩, h1, h2⟩ := bind_some h
    have h2' : s'.put o.dst x = s1 := Option.some.inj h2
    refine snd_inl hΓ hI h1 hi (fun a' w' hp => ?_)
    rw [← h2', put_bx]
    exact hp
  unfold wpOp
  rw [ho]
  simp only
  unfold aInl at h
  split at h
  · rename_i hg
    have hw : Region.wanted o (yielded ops a.tmps) = true := by simp [Region.wanted, hg]
    rw [if_pos hw]
    exact .inl (go h)
  · rename_i j want hg
    split at h
    · cases h
    · rename_i g hd
      split at h
      · rename_i b hb
        obtain ⟨hlt, hget⟩ := getD_lt hb (by simp)
        have hlt' : g < a.tmps.size := by rw [hi.tlen]; exact hlt
        have hv := hi.tmps g _ _ hget (Array.getElem?_eq_getElem hlt')
        have hv' := V_bool hv
        have hy : yielded ops a.tmps j = some b := by
          unfold yielded
          rw [hd]
          simp only [Option.bind_some, Array.getElem?_eq_getElem hlt', hv']
        cases hbw : (b : Bool) == want with
        | true =>
          have hbe : b = want := by simpa using hbw
          subst hbe
          rw [hbw] at h
          simp only [cond_true] at h
          rw [self_put hb (by simp)] at h
          rw [if_pos (by simp [Region.wanted, hg, hy])]
          exact .inl (go h)
        | false =>
          have hbe : b = !want := by cases b <;> cases want <;> first | rfl | (cases hbw)
          rw [hbw] at h
          simp only [cond_false] at h
          rw [self_put (by rw [hb, hbe]) (by simp)] at h
          rw [if_neg (by rw [hbe] at hy; cases want <;> simp [Region.wanted, hg, hy])]
          rw [← Option.some.inj h, put_bx]
          exact ⟨m, hi.put o.dst (x := .raw undef) rfl⟩
      · rename_i vs hb
        obtain ⟨hlt, hget⟩ := getD_lt hb (by simp)
        have hlt' : g < a.tmps.size := by rw [hi.tlen]; exact hlt
        have hv := hi.tmps g _ _ hget (Array.getElem?_eq_getElem hlt')
        have hv' : a.tmps[g] = .tuple vs := hv
        have hy : yielded ops a.tmps j = none := by
          unfold yielded
          rw [hd]
          simp only [Option.bind_some, Array.getElem?_eq_getElem hlt', hv']
        rw [if_neg (by simp [Region.wanted, hg, hy])]
        rw [← Option.some.inj h, put_bx]
        exact ⟨m, hi.put o.dst (x := .raw undef) rfl⟩
      · cases h
theorem seq_sound (hΓ : CallsOk Γ) {send : St} : ∀ (l : List Nat) (base : Nat) {D : Nat → Prop} {s : St} {m : Mp} {a : Act} {w : World}, aOps Γ ops base l s some = some send → (∀ i ∈ l, ¬ D (base + i) ∧ i < ops.size) → l.Nodup → (∀ k, D k → k < s.bx.length) → base + ops.size ≤ s.bx.length → Inv w0 Nin D s m a w →
    (∀ a' w', (∃ m', Inv w0 Nin (fun k => k < send.bx.length) send m' a' w') → Q .normal a' w') → wpOps Γ.P ops Q l a w
  | [], _, D, s, m, a, w, h, _, _, hB, _, hi, hQ => by
    have hs : s = send := by simpa [aOps] using h
    subst hs
    exact hQ a w ⟨m, hi.wider hB⟩
  | i :: l, base, D, s, m, a, w, h, hl, hnd, hB, hbase, hi, hQ => by
    rw [wpOps_cons]
    have hnd' := List.nodup_cons.1 hnd
    have hil := hl i List.mem_cons_self
    have ho : ops[i]? = some ops[i] := Array.getElem?_eq_getElem hil.2
    cases hI : mayInl Γ ops[i] with
    | false =>
      rw [aOps_cons ho hI] at h
      obtain ⟨s1, h1, h2⟩ := bind_some h
      have hlen := aGuard_len h1
      refine wpOp_mono (fun a' w' hp => ?_) (guard_sound (K := some) (r := s1) (D := D) hΓ ho hil.1 h1 hi)
      obtain ⟨s', m', h3, h4⟩ := hp
      have hs : s' = s1 := Option.some.inj h3
      subst hs
      refine seq_sound hΓ l base h2 (fun j hj => ⟨fun hD => ?_, (hl j (List.mem_cons_of_mem _ hj)).2⟩) hnd'.2 (fun k hk => ?_) (by omega) h4 hQ
      · rcases hD with hD | hD
        · exact (hl j (List.mem_cons_of_mem _ hj)).1 hD
        · have : j = i := by omega
          exact hnd'.1 (this ▸ hj)
      · rcases hk with hk | hk
        · have := hB k hk; omega
        · have := hil.2; omega
    | true =>
      rw [aOps_consI hΓ ho hI] at h
      obtain ⟨s1, h1, h2⟩ := bind_some h
      refine wpOp_mono (fun a' w' hp => ?_) (inlg_sound hΓ ho h1 (hi.wider hB))
      obtain ⟨m', h4⟩ := hp
      exact seq_sound hΓ l s1.bx.length h2 (fun j hj => ⟨fun hD => by have hD' : s1.bx.length + j < s1.bx.length := hD; omega, (hl j (List.mem_cons_of_mem _ hj)).2⟩) hnd'.2 (fun k hk => by have hk' : k < s1.bx.length := hk; simp only [List.length_append]; omega) (by simp) (ext_sound h4 ops.size) hQ
/-! ### any order -/
theorem masksOf_app : ∀ (l : List Oper) (ms : List Nat), ∃ t, masksOf l ms = ms ++ t
  | [], ms => ⟨[], by simp [masksOf]⟩
  | o :: l, ms => by
    obtain ⟨t, ht⟩ := masksOf_app l (ms ++ [edgeMask ms o.after.toList])
    exact ⟨_, by rw [masksOf, ht, List.append_assoc]⟩
theorem masksOf_get : ∀ (l : List Oper) (ms : List Nat) (i : Nat) (o : Oper), l[i]? = some o → (masksOf l ms).getD (ms.length + i) 0 = edgeMask ((masksOf l ms).take (ms.length + i)) o.after.toList
  | [], _, _, _, h => by simp at h
  | o :: l, ms, 0, o', h => by
    simp only [List.getElem?_cons_zero, Option.some.injEq] at h
    subst h
    obtain ⟨t, ht⟩ := masksOf_app l (ms ++ [edgeMask ms o.after.toList])
    rw [masksOf, ht, Nat.add_zero]
    simp
  | o :: l, ms, i + 1, o', h => by
    rw [List.getElem?_cons_succ] at h
    have := masksOf_get l (ms ++ [edgeMask ms o.after.toList]) i o' h
    rw [List.length_append, List.length_singleton] at this
    rw [masksOf, show ms.length + (i + 1) = ms.length + 1 + i by omega]
    exact this
theorem edgeMask_bit : ∀ (es : List Edge) (ms : List Nat) (y : Nat), hasBit (edgeMask ms es) y = true → ∃ e ∈ es, Region.binds .any e = true ∧ (y = e.on ∨ hasBit (ms.getD e.on 0) y = true)
  | [], ms, y, h => by simp [edgeMask, hasBit] at h
  | e :: es, ms, y, h => by
    simp only [edgeMask] at h
    split at h
    · rename_i hb
      unfold hasBit at h
      rw [Nat.testBit_or, Nat.testBit_or, Bool.or_eq_true, Bool.or_eq_true] at h
      rcases h with (h | h) | h
      · rw [Nat.testBit_two_pow] at h
        exact ⟨e, List.mem_cons_self, hb, .inl (of_decide_eq_true h).symm⟩
      · exact ⟨e, List.mem_cons_self, hb, .inr h⟩
      · obtain ⟨e', h1, h2⟩ := edgeMask_bit es ms y h
        exact ⟨e', List.mem_cons_of_mem _ h1, h2⟩
    · obtain ⟨e', h1, h2⟩ := edgeMask_bit es ms y h
      exact ⟨e', List.mem_cons_of_mem _ h1, h2⟩
theorem pairs_get {masks : List Nat} : ∀ (l : List (Oper × Nat)), pairsOk Γ ops masks l = true → ∀ o i, (o, i) ∈ l → edgesBack o i = true ∧ ∀ y j, (y, j) ∈ ops.toList.zipIdx → j < i → hasBit (masks.getD i 0) j = true ∨ (Oper.apart ops y o = true ∧ clsFree (clsOf Γ y) (clsOf Γ o) = true ∧ mayInl Γ y = false ∧ mayInl Γ o = false)
  | [], _, _, _, h => by cases h
  | (o', i') :: l, h, o, i, hm => by
    simp only [pairsOk, Bool.and_eq_true] at h
    rcases List.mem_cons.1 hm with he | hm
    · simp only [Prod.mk.injEq] at he
      obtain ⟨rfl, rfl⟩ := he
      refine ⟨h.1.1, fun y j hy hji => ?_⟩
      have := List.all_eq_true.1 h.1.2 (y, j) hy
      simp only [Bool.or_eq_true, Bool.not_eq_true', Bool.and_eq_true] at this
      rcases this with (h1 | h1) | h1
      · have : Nat.blt j i = true := Nat.ble_eq_true_of_le hji
        rw [this] at h1; cases h1
      · exact .inl h1
      · exact .inr ⟨h1.1.1.1, h1.1.1.2, by simpa using h1.1.2, by simpa using h1.2⟩
    · exact pairs_get l h.2 o i hm
def remaining (ops : Array Oper) (listed : Array Bool) : List Nat := (List.range ops.size).filter fun i => !listed.getD i true
theorem mem_zipIdx {i : Nat} {o : Oper} (ho : ops[i]? = some o) : (o, i) ∈ ops.toList.zipIdx := by
  rw [List.mem_zipIdx_iff_getElem?]
  simpa using ho
theorem any_sound (hΓ : CallsOk Γ) (hok : regionOk Γ ops = true) {send : St}
    (hQ : ∀ a' w', (∃ m', Inv w0 Nin (fun k => k < send.bx.length) send m' a' w') → Q .normal a' w') :
    ∀ (fuel : Nat) (listed : Array Bool) (base : Nat) (D : Nat → Prop) (s : St) (m : Mp) (a : Act) (w : World), listed.size = ops.size → (remaining ops listed).length = fuel → (∀ j, j < ops.size → listed.getD j true = true → ∀ o, ops[j]? = some o → ∀ e ∈ o.after.toList, Region.binds .any e = true → listed.getD e.on false = true) →
      aOps Γ ops base (remaining ops listed) s some = some send → (∀ i ∈ remaining ops listed, ¬ D (base + i)) → (∀ k, D k → k < s.bx.length) → base + ops.size ≤ s.bx.length → Inv w0 Nin D s m a w → wpAny Γ.P .any ops Q fuel listed a w := by
  intro fuel
  induction fuel with
  | zero =>
    intro listed base D s m a w _ hlen _ hrun _ hB _ hi
    have hnil : remaining ops listed = [] := List.eq_nil_of_length_eq_zero hlen
    rw [hnil] at hrun
    have hs : s = send := by simpa [aOps] using hrun
    refine ⟨?_, hQ a w ⟨m, hs ▸ hi.wider hB⟩⟩
    unfold Region.ready
    rw [List.filter_eq_nil_iff]
    intro i hir hc
    have : i ∈ remaining ops listed := List.mem_filter.2 ⟨hir, by simp only [Bool.and_eq_true] at hc; exact hc.1⟩
    rw [hnil] at this
    cases this
  | succ fuel ih =>
    intro listed base D s m a w hsz hlen hclosed hrun hD0 hB hbase hi
    have hpairs := pairs_get (Γ := Γ) (ops := ops) (masks := masksOf ops.toList []) ops.toList.zipIdx hok
    have hget : ∀ i, i < ops.size → ∃ o, ops[i]? = some o := fun i hlt => ⟨ops[i], Array.getElem?_eq_getElem hlt⟩
    have hback : ∀ i o, ops[i]? = some o → ∀ e ∈ o.after.toList, Region.binds .any e = true → e.on < i := by
      intro i o ho e he hb
      have h1 := (hpairs o i (mem_zipIdx ho)).1
      unfold edgesBack at h1
      have := List.all_eq_true.1 h1 e he
      simp only [Bool.or_eq_true, Bool.not_eq_true', hb, Bool.true_eq_false, false_or] at this
      exact Nat.le_of_ble_eq_true this
    -- what the masks name is listed
    have hmask : ∀ j, j < ops.size → (∀ o, ops[j]? = some o → ∀ e ∈ o.after.toList, Region.binds .any e = true → listed.getD e.on false = true) → ∀ y, hasBit ((masksOf ops.toList []).getD j 0) y = true → listed.getD y false = true := by
      intro j
      induction j using Nat.strongRecOn with
      | _ j ihj =>
        intro hj hdir y hy
        obtain ⟨o, ho⟩ := hget j hj
        have hg := masksOf_get ops.toList [] j o (by simpa using ho)
        simp only [List.length_nil, Nat.zero_add] at hg
        rw [hg] at hy
        obtain ⟨e, he, hb, h1⟩ := edgeMask_bit _ _ y hy
        have hlt := hback j o ho e he hb
        rcases h1 with rfl | h1
        · exact hdir o ho e he hb
        · have hl := hdir o ho e he hb
          have htake : ((masksOf ops.toList []).take j).getD e.on 0 = (masksOf ops.toList []).getD e.on 0 := by
            rw [List.getD_eq_getElem?_getD, List.getD_eq_getElem?_getD, List.getElem?_take, if_pos hlt]
          rw [htake] at h1
          refine ihj e.on hlt (by omega) (fun o' ho' e' he' hb' => ?_) y h1
          have hlt' : e.on < listed.size := by omega
          refine hclosed e.on (by omega) ?_ o' ho' e' he' hb'
          rw [Array.getD_eq_getD_getElem?, Array.getElem?_eq_getElem hlt'] at hl ⊢
          exact hl
    refine ⟨fun hnone => ?_, fun i hir => ?_⟩
    · -- the first one that is left is ready
      exfalso
      cases hrem : remaining ops listed with
      | nil => rw [hrem] at hlen; cases hlen
      | cons i0 rest =>
        have hmem : i0 ∈ remaining ops listed := by rw [hrem]; exact List.mem_cons_self
        obtain ⟨h1, h2⟩ := List.mem_filter.1 hmem
        have hlt : i0 < ops.size := List.mem_range.1 h1
        obtain ⟨o, ho⟩ := hget i0 hlt
        have hready : i0 ∈ Region.ready .any ops listed := by
          unfold Region.ready
          refine List.mem_filter.2 ⟨h1, ?_⟩
          rw [Bool.and_eq_true]
          refine ⟨h2, ?_⟩
          rw [ho]
          simp only [Option.map_some, Option.getD_some]
          rw [Array.all_eq_true_iff_forall_mem]
          intro e he
          simp only [Bool.or_eq_true, Bool.not_eq_true']
          cases hb : Region.binds .any e with
          | false => exact .inl rfl
          | true =>
            right
            have hlt' := hback i0 o ho e (by simpa using he) hb
            -- smaller than the first that is left: listed
            by_cases hl : listed.getD e.on false = true
            · exact hl
            · exfalso
              have hlt'' : e.on < listed.size := by omega
              have hin : e.on ∈ remaining ops listed := by
                refine List.mem_filter.2 ⟨List.mem_range.2 (by omega), ?_⟩
                rw [Array.getD_eq_getD_getElem?, Array.getElem?_eq_getElem hlt''] at hl ⊢
                simpa using hl
              have hsorted : (remaining ops listed).Pairwise (· < ·) := List.Pairwise.filter _ List.pairwise_lt_range
              rw [hrem] at hin hsorted
              rcases List.mem_cons.1 hin with he' | hin
              · omega
              · have := (List.pairwise_cons.1 hsorted).1 _ hin; omega
        rw [hnone] at hready
        cases hready
    · obtain ⟨h1, h2⟩ := List.mem_filter.1 hir
      have hlt : i < ops.size := List.mem_range.1 h1
      obtain ⟨o, ho⟩ := hget i hlt
      rw [Bool.and_eq_true] at h2
      obtain ⟨h2, h3⟩ := h2
      rw [ho] at h3
      simp only [Option.map_some, Option.getD_some] at h3
      have hdir : ∀ e ∈ o.after.toList, Region.binds .any e = true → listed.getD e.on false = true := by
        intro e he hb
        have := (Array.all_eq_true_iff_forall_mem.1 h3) e (by simpa using he)
        simp only [Bool.or_eq_true, Bool.not_eq_true', hb, Bool.true_eq_false, false_or] at this
        exact this
      have hlt' : i < listed.size := by omega
      have hmem : i ∈ remaining ops listed := List.mem_filter.2 ⟨h1, h2⟩
      obtain ⟨pre, post, hsplit⟩ := List.append_of_mem hmem
      have hsorted : (remaining ops listed).Pairwise (· < ·) := List.Pairwise.filter _ List.pairwise_lt_range
      rw [hsplit] at hrun hsorted
      have hpre : ∀ y ∈ pre, y < i := fun y hy => (List.pairwise_append.1 hsorted).2.2 y hy i List.mem_cons_self
      have hpost : ∀ y ∈ post, i < y := fun y hy => (List.pairwise_cons.1 (List.pairwise_append.1 hsorted).2.1).1 y hy
      have hfree : ∀ y ∈ pre, ∃ oy, ops[y]? = some oy ∧ oy.apart ops o = true ∧ clsFree (clsOf Γ oy) (clsOf Γ o) = true ∧ mayInl Γ oy = false ∧ mayInl Γ o = false := fun y hy => by
        have hy' : y ∈ remaining ops listed := by rw [hsplit]; exact List.mem_append_left _ hy
        obtain ⟨hy1, hy2⟩ := List.mem_filter.1 hy'
        have hylt : y < ops.size := List.mem_range.1 hy1
        obtain ⟨oy, hoy⟩ := hget y hylt
        refine ⟨oy, hoy, ?_⟩
        rcases (hpairs o i (mem_zipIdx ho)).2 oy y (mem_zipIdx hoy) (hpre y hy) with hb | hb
        · exfalso
          have := hmask i hlt (fun o' ho' e he hb' => by rw [ho] at ho'; cases ho'; exact hdir e he hb') y hb
          have hyl : y < listed.size := by omega
          rw [Array.getD_eq_getD_getElem?, Array.getElem?_eq_getElem hyl] at this hy2
          simp only [Option.getD_some] at this hy2
          rw [this] at hy2
          cases hy2
        · exact hb
      have hset : ∀ k, (listed.setIfInBounds i true).getD k true = (if k = i then true else listed.getD k true) := by
        intro k
        rw [Array.getD_eq_getD_getElem?, Array.getElem?_setIfInBounds]
        by_cases hk : i = k
        · subst hk; simp [hlt']
        · rw [if_neg hk, if_neg (fun h => hk h.symm), Array.getD_eq_getD_getElem?]
      have hset' : ∀ k, (listed.setIfInBounds i true).getD k false = (if k = i then true else listed.getD k false) := by
        intro k
        rw [Array.getD_eq_getD_getElem?, Array.getElem?_setIfInBounds]
        by_cases hk : i = k
        · subst hk; simp [hlt']
        · rw [if_neg hk, if_neg (fun h => hk h.symm), Array.getD_eq_getD_getElem?]
      have hrem' : remaining ops (listed.setIfInBounds i true) = pre ++ post := by
        have e1 : remaining ops (listed.setIfInBounds i true) = (remaining ops listed).filter (fun k => k != i) := by
          unfold remaining
          rw [List.filter_filter]
          apply List.filter_congr
          intro k _
          rw [hset k]
          by_cases hk : k = i
          · subst hk; simp
          · simp [hk]
        rw [e1, hsplit, List.filter_append, List.filter_cons]
        simp only [bne_self_eq_false, Bool.false_eq_true, if_false]
        rw [List.filter_eq_self.2 (fun y hy => by have := hpre y hy; simp; omega), List.filter_eq_self.2 (fun y hy => by have := hpost y hy; simp; omega)]
      have hlen' : (remaining ops (listed.setIfInBounds i true)).length = fuel := by
        rw [hrem']
        rw [hsplit] at hlen
        simp only [List.length_append, List.length_cons] at hlen ⊢
        omega
      have hclosed' : ∀ j, j < ops.size → (listed.setIfInBounds i true).getD j true = true → ∀ o, ops[j]? = some o → ∀ e ∈ o.after.toList, Region.binds .any e = true → (listed.setIfInBounds i true).getD e.on false = true := by
        intro j hj hjl o' ho' e he hb
        rw [hset']
        by_cases hei : e.on = i
        · rw [if_pos hei]
        · rw [if_neg hei]
          rw [hset] at hjl
          by_cases hji : j = i
          · subst hji
            rw [ho] at ho'
            cases ho'
            exact hdir e he hb
          · rw [if_neg hji] at hjl
            exact hclosed j hj hjl o' ho' e he hb
      have hne : ∀ j ∈ pre ++ post, j ≠ i ∧ j ∈ remaining ops listed := by
        intro j hj
        rcases List.mem_append.1 hj with hj | hj
        · exact ⟨Nat.ne_of_lt (hpre j hj), by rw [hsplit]; exact List.mem_append_left _ hj⟩
        · exact ⟨Nat.ne_of_gt (hpost j hj), by rw [hsplit]; exact List.mem_append_right _ (List.mem_cons_of_mem _ hj)⟩
      cases hI : mayInl Γ o with
      | false =>
        obtain ⟨s', h4, h5⟩ := move_front ho hI pre post s hrun (fun y hy => by obtain ⟨oy, c1, c2, c3, c4, _⟩ := hfree y hy; exact ⟨oy, c1, c2, c3, c4⟩)
        have hlen1 := aGuard_len h4
        refine wpOp_mono (fun a' w' hp => ?_) (guard_sound (K := some) (r := s') (Q := Q) hΓ ho (hD0 i hmem) h4 hi)
        obtain ⟨s'', m', he, hi'⟩ := hp
        have hs : s'' = s' := Option.some.inj he
        subst hs
        refine ih _ base _ s'' m' a' w' (by rw [Array.size_setIfInBounds]; exact hsz) hlen' hclosed' (by rw [hrem']; exact h5) (fun j hj => ?_) (fun k hk => ?_) (by omega) hi'
        · rw [hrem'] at hj
          obtain ⟨e1, e2⟩ := hne j hj
          rintro (hd | hd)
          · exact hD0 j e2 hd
          · exact e1 (by omega)
        · rcases hk with hk | hk
          · have := hB k hk; omega
          · omega
      | true =>
        have hpn : pre = [] := by
          cases pre with
          | nil => rfl
          | cons y _ =>
            obtain ⟨_, _, _, _, _, c5⟩ := hfree y List.mem_cons_self
            rw [hI] at c5; cases c5
        subst hpn
        rw [List.nil_append, aOps_consI hΓ ho hI] at hrun
        obtain ⟨s1, h4, h5⟩ := bind_some hrun
        refine wpOp_mono (fun a' w' hp => ?_) (inlg_sound (Q := Q) hΓ ho h4 (hi.wider hB))
        obtain ⟨m', hi'⟩ := hp
        exact ih _ s1.bx.length (fun k => k < s1.bx.length) _ m' a' w' (by rw [Array.size_setIfInBounds]; exact hsz) hlen' hclosed' (by rw [hrem', List.nil_append]; exact h5) (fun j _ hj => by have hj' : s1.bx.length + j < s1.bx.length := hj; omega) (fun k hk => by have hk' : k < s1.bx.length := hk; simp only [List.length_append]; omega) (by simp) (ext_sound hi' ops.size)
end
end Go.Eng
