/- ENGINE, part T: control, loops, bodies: what the machine answers the program answers. -/
import Derived.Test.YtogancdiihbjfaaEngS
import Derived.Scope
namespace Go.Eng
open Go Go.RowKit
section
variable {Γ : Ctx} {ops : Array Oper} {o : Oper} {n base : Nat} {s s1 : St}
end
def exM : Exit → AEx → Prop
  | .normal, .normal => True
  | .exit i, .exit j => i = j
  | .ret, .ret => True
  | _, _ => False
section
variable {R : Type} {Γ : Ctx} {keep : Hints} {w0 : World} {Nin : Env} {D : Nat → Prop} {s : St} {m : Mp} {a : Act} {w : World}
def CPost (K : AEx → St → Option R) (r : R) (w0 : World) (Nin : Env) : Exit → Act → World → Prop := fun e a' w' => ∃ e' s' m', K e' s' = some r ∧ exM e e' ∧ Inv w0 Nin (fun k => k < s'.bx.length) s' m' a' w'
def LoopWp (P : Program) (c : Code) (Q : Exit → Act → World → Prop) (a : Act) (w : World) : Prop :=
  ∀ (b : Frame) (k : List Item) (cs : List Frame), ∃ e a' w', Q e a' w' ∧ Arrives P (lone (b.at a (.code c :: .inLoop c :: k)) cs w) b k cs e a' w'
def LOk (Γ : Ctx) (L : LoopK R) : Prop := ∀ (c : Code) (s : St) (K : AEx → St → Option R) (r : R), L c s K = some r → ∀ (w0 : World) (Nin : Env) (m : Mp) (a : Act) (w : World), Inv w0 Nin (fun k => k < s.bx.length) s m a w → LoopWp Γ.P c (CPost K r w0 Nin) a w
theorem drew_sound (h : Inv w0 Nin D s m a w) : Inv w0 Nin D s m a { w with drawn := w.drawn + 1 } := by
  have hto : (vw w0 Nin s m w).To (vw w0 Nin s m { w with drawn := w.drawn + 1 }) :=
    ⟨rfl, fun b hb => ⟨hb, rfl⟩, fun b hi hb => ⟨hb, fun _ _ => rfl⟩, fun τ hu => ⟨hu, fun hl => ⟨hl, rfl, rfl, fun _ _ => rfl⟩⟩, fun b hb => ⟨hb, rfl⟩⟩
  exact h.next (s' := s) (m' := m) rfl hto ⟨h.below.os, h.below.tape, h.below.output, h.below.size, h.below.block⟩ h.toks h.inj
    (fun b T cs hb => by
      obtain ⟨c1, vs, c2, c3, c4⟩ := h.boxes b T cs hb
      exact ⟨c1, vs, c2, all2_imp (fun _ _ => hto.v1) _ _ c3, c4⟩) h.binj h.sep h.uD h.bD h.liveU
theorem region_sound (hΓ : CallsOk Γ) {id : Nat} {ops : Array Oper} {draw : Bool} {K : AEx → St → Option R} {r : R}
    (h : (if !draw || (Γ.P.follows .mixedOrders && regionOk Γ ops) then
      aOps Γ ops s.bx.length (List.range ops.size) { s with bx := s.bx ++ List.replicate ops.size none } (K .normal) else none) = some r)
    (hi : Inv w0 Nin (fun k => k < s.bx.length) s m a w) : (Code.region id ops draw).wp Γ.P (CPost K r w0 Nin) a w := by
  split at h
  · rename_i hc
    rw [aOps_nat hΓ] at h
    obtain ⟨send, h1, h2⟩ := bind_some h
    have hQ : ∀ a' w', (∃ m', Inv w0 Nin (fun k => k < send.bx.length) send m' a' w') → CPost K r w0 Nin .normal a' w' := fun a' w' ⟨m', h4⟩ => ⟨.normal, send, m', h2, trivial, h4⟩
    have hB : ∀ k, k < s.bx.length → k < (s.bx ++ List.replicate ops.size (none : Option (TypeId × List AV))).length := fun k hk => by simp only [List.length_append]; omega
    cases draw with
    | false =>
      refine wp_region ?_
      exact seq_sound hΓ (List.range ops.size) s.bx.length (D := fun k => k < s.bx.length) h1 (fun i hi => ⟨fun hd => by have hd' : s.bx.length + i < s.bx.length := hd; omega, List.mem_range.1 hi⟩) List.nodup_range hB (by simp) (ext_sound hi ops.size) hQ
    | true =>
      simp only [Bool.not_true, Bool.false_or, Bool.and_eq_true] at hc
      refine wp_region_any hc.1 ?_
      have hrem : remaining ops (Array.replicate ops.size false) = List.range ops.size := by
        unfold remaining
        refine List.filter_eq_self.2 (fun i hi => ?_)
        have : i < ops.size := List.mem_range.1 hi
        simp [this]
      refine any_sound (send := send) hΓ hc.2 hQ ops.size _ s.bx.length (fun k => k < s.bx.length) { s with bx := s.bx ++ List.replicate ops.size none } m a _ (by simp) (by rw [hrem]; simp) (fun j hj hl => ?_) (by rw [hrem]; exact h1) (fun i _ hd => by have hd' : s.bx.length + i < s.bx.length := hd; omega) hB (by simp) (drew_sound (ext_sound hi ops.size))
      simp [hj] at hl
  · cases h
theorem aCode_sound (hΓ : CallsOk Γ) {L : LoopK R} (hL : LOk Γ L) {r : R} : ∀ (c : Code) (s : St) (K : AEx → St → Option R), aCode Γ keep L c s K = some r →
    ∀ (m : Mp) (a : Act) (w : World), Inv w0 Nin (fun k => k < s.bx.length) s m a w → c.wp Γ.P (CPost K r w0 Nin) a w := by
  intro c
  induction c with
  | skip => intro s K h m a w hi; exact wp_skip ⟨.normal, s, m, h, trivial, hi⟩
  | label l => intro s K h m a w hi; exact wp_label ⟨.normal, s, m, h, trivial, hi⟩
  | exit id => intro s K h m a w hi; exact wp_exit ⟨.exit id, s, m, h, rfl, hi⟩
  | ret => intro s K h m a w hi; exact wp_ret ⟨.ret, s, m, h, trivial, hi⟩
  | seq x y ihx ihy =>
    intro s K h m a w hi
    refine wp_seq (wp_mono (ihx s _ h m a w hi) (fun e a' w' hq => ?_))
    obtain ⟨e', s', m', h1, h2, h3⟩ := hq
    cases e with
    | normal =>
      cases e' <;> first | exact h2.elim | skip
      exact ihy s' K h1 m' a' w' h3
    | exit id =>
      cases e' <;> first | exact h2.elim | skip
      exact ⟨_, s', m', h1, h2, h3⟩
    | ret =>
      cases e' <;> first | exact h2.elim | skip
      exact ⟨_, s', m', h1, h2, h3⟩
    | _ => exact h2.elim
  | cond c x y ihx ihy =>
    intro s K h m a w hi
    simp only [aCode] at h
    split at h
    · rename_i b hb
      have hc := hi.ev c
      rw [hb] at hc
      have hc' := V_bool hc
      cases b with
      | true => exact wp_cond_true hc' (ihx s K h m a w hi)
      | false => exact wp_cond_false hc' (ihy s K h m a w hi)
    · cases h
  | block id c ih =>
    intro s K h m a w hi
    refine wp_block (wp_mono (ih s _ h m a w hi) (fun e a' w' hq => ?_))
    obtain ⟨e', s', m', h1, h2, h3⟩ := hq
    cases e with
    | normal =>
      cases e' <;> first | exact h2.elim | skip
      exact ⟨_, s', m', h1, h2, h3⟩
    | exit j =>
      cases e' <;> first | exact h2.elim | skip
      have hj : j = _ := h2
      subst hj
      simp only at h1
      unfold Exit.inBlock
      simp only
      split at h1
      · rename_i hb
        have := Nat.eq_of_beq_eq_true hb
        subst this
        rw [if_pos rfl]
        exact ⟨.normal, s', m', h1, trivial, h3⟩
      · rename_i hb
        rw [if_neg (fun he => hb (by rw [he]; exact Nat.beq_refl _))]
        exact ⟨_, s', m', h1, rfl, h3⟩
    | ret =>
      cases e' <;> first | exact h2.elim | skip
      exact ⟨_, s', m', h1, h2, h3⟩
    | _ => exact h2.elim
  | loop c _ =>
    intro s K h m a w hi
    obtain ⟨m', hi'⟩ := canon_sound hi keep c
    have := hL c _ K r h w0 Nin m' a w hi'
    intro b k cs
    obtain ⟨e, a', w', hq, harr⟩ := this b k cs
    exact ⟨e, a', w', hq, .of_steps (.one step_loop) harr⟩
  | scope c ih =>
    intro s K h m a w hi
    refine wp_scope_straight (wp_mono (ih s K h m a w hi) (fun e a' w' hq => ?_))
    obtain ⟨e', s', m', h1, h2, h3⟩ := hq
    cases e with
    | goto l => exact h2.elim
    | _ => exact ⟨e', s', m', h1, h2, h3⟩
  | region id ops draw => intro s K h m a w hi; exact region_sound hΓ h hi
  | _ => intro s K h; simp [aCode] at h
theorem iter_ok (hΓ : CallsOk Γ) : ∀ n : Nat, LOk Γ (iter (R := R) Γ keep n)
  | 0 => by intro c s K r h; cases h
  | n + 1 => by
    intro c s K r h w0 Nin m a w hi b k cs
    simp only [iter] at h
    obtain ⟨e, a1, w1, hq, harr⟩ := aCode_sound hΓ (iter_ok hΓ n) c s _ h m a w hi b (.inLoop c :: k) cs
    obtain ⟨e', s', m', h1, h2, h3⟩ := hq
    cases e with
    | normal =>
      cases e' <;> first | exact h2.elim | skip
      obtain ⟨m'', hi''⟩ := canon_sound h3 keep c
      obtain ⟨e2, a2, w2, hq2, harr2⟩ := iter_ok hΓ n c _ K r h1 w0 Nin m'' a1 w1 hi'' b k cs
      exact ⟨e2, a2, w2, hq2, .of_steps (Steps.trans harr (.one step_inLoop)) harr2⟩
    | exit id =>
      cases e' <;> first | exact h2.elim | skip
      exact ⟨_, a1, w1, ⟨_, strike keep c s', m', h1, h2, strike_sound h3 keep c⟩, .pass (x := .inLoop c) rfl (fun _ _ => .inl (by simp)) harr⟩
    | ret =>
      cases e' <;> first | exact h2.elim | skip
      exact ⟨_, a1, w1, ⟨_, strike keep c s', m', h1, h2, strike_sound h3 keep c⟩, .pass (x := .inLoop c) rfl (fun _ _ => .inl (by simp)) harr⟩
    | _ => exact h2.elim
end
end Go.Eng
