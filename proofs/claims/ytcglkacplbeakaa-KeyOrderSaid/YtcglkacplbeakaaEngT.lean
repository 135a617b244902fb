/- ENGINE, part T: control, loops, bodies: what the machine answers the program answers. -/
import Derived.Test.YtcglkacplbeakaaEngS
import Derived.Scope
namespace Go.Eng
open Go Go.RowKit
section
variable {Γ : Ctx} {ops : Array Oper} {o : Oper} {n base : Nat} {s s1 : St}
theorem aOp_len (h : aOp Γ n o s some = some s1) : s1.bx.length = s.bx.length := by
  by_cases hc : clsOf Γ o = .other
  · obtain ⟨op, hop⟩ : ∃ op, o.op = op := ⟨_, rfl⟩
    cases op with
    | box T x =>
      simp only [aOp, hop] at h
      split at h
      · split at h
        · rw [← Option.some.inj h, put_bx]; exact List.length_set
        · cases h
      · cases h
    | alloc T =>
      simp only [aOp, hop] at h
      split at h
      · split at h
        · split at h
          · rw [← Option.some.inj h, put_bx]; exact List.length_set
          · cases h
        · cases h
      · cases h
    | store T x y =>
      simp only [aOp, hop] at h
      split at h
      · split at h
        · split at h
          · rw [← Option.some.inj h, put_bx]; exact List.length_set
          · cases h
        · cases h
      · cases h
    | call c =>
      simp only [aOp, hop] at h
      split at h
      · split at h
        · obtain ⟨z, h1, _⟩ := callA_eff h
          rw [h1, put_bx]
        · cases h
      · rename_i hcal; simp [clsOf, hop, hcal] at hc
      · split at h
        · unfold appendA at h
          split at h
          · split at h
            · split at h
              · split at h
                · split at h
                  · rw [← Option.some.inj h, put_bx]
                  · cases h
                · cases h
              · split at h
                · split at h
                  · rw [← Option.some.inj h, put_bx]
                  · cases h
                · cases h
              · cases h
            · cases h
          · cases h
        · cases h
      · cases h
    | _ => simp [clsOf, hop] at hc <;> simp [aOp, hop] at h
  · obtain ⟨z, h1, _⟩ := free_eff hc h
    rw [h1, put_bx]
theorem aGuard_len (h : aGuard Γ ops n o s some = some s1) : s1.bx.length = s.bx.length := by
  rcases guard_cases h with ⟨h1, _⟩ | ⟨h1, _⟩
  · exact aOp_len h1
  · rw [h1, put_bx]
theorem aOps_len : ∀ (l : List Nat) (s s1 : St), aOps Γ ops base l s some = some s1 → s1.bx.length = s.bx.length
  | [], s, s1, h => by simp only [aOps, Option.some.injEq] at h; rw [h]
  | i :: l, s, s1, h => by
    cases ho : ops[i]? with
    | none => simp [aOps, ho] at h
    | some o =>
      rw [aOps_cons ho] at h
      obtain ⟨s2, h1, h2⟩ := bind_some h
      rw [aOps_len l s2 s1 h2, aGuard_len h1]
end
def exM : Exit → AEx → Prop
  | .normal, .normal => True
  | .exit i, .exit j => i = j
  | .ret, .ret => True
  | _, _ => False
section
variable {R : Type} {Γ : Ctx} {keep : List Nat} {w0 : World} {Nin D : Nat → Prop} {s : St} {m : Mp} {a : Act} {w : World}
def CPost (K : AEx → St → Option R) (r : R) (w0 : World) (Nin : Nat → Prop) : Exit → Act → World → Prop := fun e a' w' => ∃ e' s' m', K e' s' = some r ∧ exM e e' ∧ Inv w0 Nin (fun k => k < s'.bx.length) s' m' a' w'
def LoopWp (P : Program) (c : Code) (Q : Exit → Act → World → Prop) (a : Act) (w : World) : Prop :=
  ∀ (b : Frame) (k : List Item) (cs : List Frame), ∃ e a' w', Q e a' w' ∧ Arrives P (lone (b.at a (.code c :: .inLoop c :: k)) cs w) b k cs e a' w'
def LOk (Γ : Ctx) (L : LoopK R) : Prop := ∀ (c : Code) (s : St) (K : AEx → St → Option R) (r : R), L c s K = some r → ∀ (w0 : World) (Nin : Nat → Prop) (m : Mp) (a : Act) (w : World), Inv w0 Nin (fun k => k < s.bx.length) s m a w → LoopWp Γ.P c (CPost K r w0 Nin) a w
theorem ext_get {l : List (Option (TypeId × List AV))} {n i : Nat} {x : TypeId × List AV} : (l ++ List.replicate n none)[i]? = some (some x) ↔ l[i]? = some (some x) := by
  by_cases h : i < l.length
  · rw [List.getElem?_append_left h]
  · rw [List.getElem?_append_right (by omega), List.getElem?_replicate, List.getElem?_eq_none (by omega)]
    constructor
    · intro h; split at h <;> cases h
    · intro h; cases h
theorem ext_sound (h : Inv w0 Nin D s m a w) (n : Nat) : Inv w0 Nin D { s with bx := s.bx ++ List.replicate n none } m a w := by
  have hg : ∀ (i : Nat) (T : TypeId) (cs : List AV), (s.bx ++ List.replicate n none)[i]? = some (some (T, cs)) → s.bx[i]? = some (some (T, cs)) := fun i T cs hi => ext_get.1 hi
  have hN : ∀ b, (vw w0 Nin s m w).N b → (vw w0 Nin { s with bx := s.bx ++ List.replicate n none } m w).N b := fun b ⟨c1, c2, c3, c4⟩ => ⟨c1, c2, c3, fun i T cs hi => c4 i T cs (hg i T cs hi)⟩
  have hto : (vw w0 Nin s m w).To (vw w0 Nin { s with bx := s.bx ++ List.replicate n none } m w) :=
    ⟨rfl, fun b hb => ⟨hN b hb, rfl⟩, fun b hi hb => ⟨hb.imp (hN b) id, fun _ _ => rfl⟩, fun τ hu => ⟨hu, fun hl => ⟨hl, rfl, rfl, fun _ _ => rfl⟩⟩, fun b ⟨T, cs, hb⟩ => ⟨⟨T, cs, ext_get.2 hb⟩, rfl⟩⟩
  exact h.next (s' := { s with bx := s.bx ++ List.replicate n none }) (m' := m) rfl hto h.below h.toks h.inj
    (fun b T cs hb => by
      obtain ⟨c1, vs, c2, c3, c4⟩ := h.boxes b T cs (hg b T cs hb)
      exact ⟨c1, vs, c2, all2_imp (fun _ _ => hto.v1) _ _ c3, c4⟩)
    (fun b T cs b' T' cs' hb hb' he => h.binj b T cs b' T' cs' (hg b T cs hb) (hg b' T' cs' hb') he)
    (fun τ k b T cs hl hG hb => h.sep τ k b T cs hl hG (hg b T cs hb)) h.uD (fun b T cs hb => h.bD b T cs (hg b T cs hb)) h.liveU
theorem drew_sound (h : Inv w0 Nin D s m a w) : Inv w0 Nin D s m a { w with drawn := w.drawn + 1 } := by
  have hto : (vw w0 Nin s m w).To (vw w0 Nin s m { w with drawn := w.drawn + 1 }) :=
    ⟨rfl, fun b hb => ⟨hb, rfl⟩, fun b hi hb => ⟨hb, fun _ _ => rfl⟩, fun τ hu => ⟨hu, fun hl => ⟨hl, rfl, rfl, fun _ _ => rfl⟩⟩, fun b hb => ⟨hb, rfl⟩⟩
  exact h.next (s' := s) (m' := m) rfl hto ⟨h.below.os, h.below.tape, h.below.output, h.below.size, h.below.block⟩ h.toks h.inj
    (fun b T cs hb => by
      obtain ⟨c1, vs, c2, c3, c4⟩ := h.boxes b T cs hb
      exact ⟨c1, vs, c2, all2_imp (fun _ _ => hto.v1) _ _ c3, c4⟩) h.binj h.sep h.uD h.bD h.liveU
theorem region_sound (hΓ : CallsOk Γ) {id : Nat} {ops : Array Oper} {draw : Bool} {K : AEx → St → Option R} {r : R}
    (h : (if !draw || (Γ.P.follows .mixedOrders && regionOk Γ ops) then
      aOps Γ ops s.bx.length (List.range ops.size) { s with bx := s.bx ++ List.replicate ops.size none } (K .normal) else none) = some r)
    (hi : Inv w0 Nin (fun k => k < s.bx.length) s m a w) : (Code.region id ops draw).wp Γ.P (CPost K r w0 Nin) a w := by
  split at h
  · rename_i hc
    rw [aOps_nat] at h
    obtain ⟨send, h1, h2⟩ := bind_some h
    have hlen := aOps_len _ _ _ h1
    simp only [List.length_append, List.length_replicate] at hlen
    let K' : St → Option R := fun s' => if s'.bx.length = s.bx.length + ops.size then K .normal s' else none
    have hK' : K' send = some r := by show (if _ then _ else _) = _; rw [if_pos hlen]; exact h2
    have hQ : ∀ a' w', Post K' r w0 Nin (fun k => k < s.bx.length ∨ ∃ i, i < ops.size ∧ k = s.bx.length + i) a' w' → CPost K r w0 Nin .normal a' w' := by
      rintro a' w' ⟨s', m', h3, h4⟩
      have h3' : (if s'.bx.length = s.bx.length + ops.size then K .normal s' else none) = some r := h3
      split at h3'
      · rename_i hl
        exact ⟨.normal, s', m', h3', trivial, h4.wider (fun k hk => by rcases hk with hk | ⟨i, hi1, hi2⟩ <;> omega)⟩
      · cases h3'
    cases draw with
    | false =>
      refine wp_region ?_
      refine seq_sound (K := K') (r := r) (D := fun k => k < s.bx.length) hΓ (List.range ops.size) (s := { s with bx := s.bx ++ List.replicate ops.size none }) (by rw [aOps_nat, h1]; exact hK') (fun i hi hd => by omega) List.nodup_range (ext_sound hi ops.size) (fun a' w' hp => hQ a' w' (hp.wider fun k hk => ?_))
      rcases hk with hk | ⟨i, hi1, hi2⟩
      · exact .inl hk
      · exact .inr ⟨i, List.mem_range.1 hi1, hi2⟩
    | true =>
      simp only [Bool.not_true, Bool.false_or, Bool.and_eq_true] at hc
      refine wp_region_any hc.1 ?_
      have hrem : remaining ops (Array.replicate ops.size false) = List.range ops.size := by
        unfold remaining
        refine List.filter_eq_self.2 (fun i hi => ?_)
        have : i < ops.size := List.mem_range.1 hi
        simp [this]
      refine any_sound (K := K') (r := r) (D := fun k => k < s.bx.length) (send := send) (base := s.bx.length) hΓ hc.2 (fun i hi hd => by omega) hK' hQ ops.size _ { s with bx := s.bx ++ List.replicate ops.size none } m a _ (by simp) (by rw [hrem]; simp) (fun j hj hl => ?_) (by rw [hrem]; exact h1) (drew_sound ((ext_sound hi ops.size).wider (fun _ hk => .inl hk)))
      simp [hj] at hl
  · cases h
theorem aCode_sound (hΓ : CallsOk Γ) {L : LoopK R} (hL : LOk Γ L) {r : R} : ∀ (c : Code) (s : St) (K : AEx → St → Option R), aCode Γ keep L c s K = some r →
    ∀ (m : Mp) (a : Act) (w : World), Inv w0 Nin (fun k => k < s.bx.length) s m a w → c.wp Γ.P (CPost K r w0 Nin) a w := by
  intro c
  induction c with
  | skip => intro s K h m a w hi; exact wp_skip ⟨.normal, s, m, h, trivial, hi⟩
  | label l => intro s K h m a w hi; exact wp_label ⟨.normal, s, m, h, trivial, hi⟩
  | exit id => intro s K h m a w hi; exact wp_exit ⟨.exit id, s, m, h, rfl, hi⟩
  | ret => intro s K h m a w hi; exact wp_ret ⟨.ret, s, m, h, trivial, hi⟩
  | seq x y ihx ihy =>
    intro s K h m a w hi
    refine wp_seq (wp_mono (ihx s _ h m a w hi) (fun e a' w' hq => ?_))
    obtain ⟨e', s', m', h1, h2, h3⟩ := hq
    cases e with
    | normal =>
      cases e' <;> first | exact h2.elim | skip
      exact ihy s' K h1 m' a' w' h3
    | exit id =>
      cases e' <;> first | exact h2.elim | skip
      exact ⟨_, s', m', h1, h2, h3⟩
    | ret =>
      cases e' <;> first | exact h2.elim | skip
      exact ⟨_, s', m', h1, h2, h3⟩
    | _ => exact h2.elim
  | cond c x y ihx ihy =>
    intro s K h m a w hi
    simp only [aCode] at h
    split at h
    · rename_i b hb
      have hc := hi.ev c
      rw [hb] at hc
      have hc' := V_bool hc
      cases b with
      | true => exact wp_cond_true hc' (ihx s K h m a w hi)
      | false => exact wp_cond_false hc' (ihy s K h m a w hi)
    · cases h
  | block id c ih =>
    intro s K h m a w hi
    refine wp_block (wp_mono (ih s _ h m a w hi) (fun e a' w' hq => ?_))
    obtain ⟨e', s', m', h1, h2, h3⟩ := hq
    cases e with
    | normal =>
      cases e' <;> first | exact h2.elim | skip
      exact ⟨_, s', m', h1, h2, h3⟩
    | exit j =>
      cases e' <;> first | exact h2.elim | skip
      have hj : j = _ := h2
      subst hj
      simp only at h1
      unfold Exit.inBlock
      simp only
      split at h1
      · rename_i hb
        have := Nat.eq_of_beq_eq_true hb
        subst this
        rw [if_pos rfl]
        exact ⟨.normal, s', m', h1, trivial, h3⟩
      · rename_i hb
        rw [if_neg (fun he => hb (by rw [he]; exact Nat.beq_refl _))]
        exact ⟨_, s', m', h1, rfl, h3⟩
    | ret =>
      cases e' <;> first | exact h2.elim | skip
      exact ⟨_, s', m', h1, h2, h3⟩
    | _ => exact h2.elim
  | loop c _ =>
    intro s K h m a w hi
    obtain ⟨m', hi'⟩ := canon_sound hi keep c
    have := hL c _ K r h w0 Nin m' a w hi'
    intro b k cs
    obtain ⟨e, a', w', hq, harr⟩ := this b k cs
    exact ⟨e, a', w', hq, .of_steps (.one step_loop) harr⟩
  | scope c ih =>
    intro s K h m a w hi
    refine wp_scope_straight (wp_mono (ih s K h m a w hi) (fun e a' w' hq => ?_))
    obtain ⟨e', s', m', h1, h2, h3⟩ := hq
    cases e with
    | goto l => exact h2.elim
    | _ => exact ⟨e', s', m', h1, h2, h3⟩
  | region id ops draw => intro s K h m a w hi; exact region_sound hΓ h hi
  | _ => intro s K h; simp [aCode] at h
theorem iter_ok (hΓ : CallsOk Γ) : ∀ n : Nat, LOk Γ (iter (R := R) Γ keep n)
  | 0 => by intro c s K r h; cases h
  | n + 1 => by
    intro c s K r h w0 Nin m a w hi b k cs
    simp only [iter] at h
    obtain ⟨e, a1, w1, hq, harr⟩ := aCode_sound hΓ (iter_ok hΓ n) c s _ h m a w hi b (.inLoop c :: k) cs
    obtain ⟨e', s', m', h1, h2, h3⟩ := hq
    cases e with
    | normal =>
      cases e' <;> first | exact h2.elim | skip
      obtain ⟨m'', hi''⟩ := canon_sound h3 keep c
      obtain ⟨e2, a2, w2, hq2, harr2⟩ := iter_ok hΓ n c _ K r h1 w0 Nin m'' a1 w1 hi'' b k cs
      exact ⟨e2, a2, w2, hq2, .of_steps (Steps.trans harr (.one step_inLoop)) harr2⟩
    | exit id =>
      cases e' <;> first | exact h2.elim | skip
      exact ⟨_, a1, w1, ⟨_, s', m', h1, h2, h3⟩, .pass (x := .inLoop c) rfl (fun _ _ => .inl (by simp)) harr⟩
    | ret =>
      cases e' <;> first | exact h2.elim | skip
      exact ⟨_, a1, w1, ⟨_, s', m', h1, h2, h3⟩, .pass (x := .inLoop c) rfl (fun _ _ => .inl (by simp)) harr⟩
    | _ => exact h2.elim
end
end Go.Eng
