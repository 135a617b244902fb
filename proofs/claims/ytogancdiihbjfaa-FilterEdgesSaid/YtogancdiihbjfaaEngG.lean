/- ENGINE, part G: append, make, slice literals, boxes, stores. -/
import Derived.Test.YtogancdiihbjfaaEngF
import Derived.Laws.Build
namespace Go.Eng
open Go Go.RowKit
section
variable {R : Type} {Γ : Ctx} {w0 : World} {Nin : Env} {D : Nat → Prop} {s : St} {m : Mp} {a : Act} {w : World} {o : Oper} {K : St → Option R} {r : R} {Q : Exit → Act → World → Prop}
/-- A slice of the frame's own, new or grown. -/
theorem own_fin (h : Inv w0 Nin D s m a w) {n id : Nat} (hn : ¬ D n) (hid : id / 8 = n) (cons : Option Nat) (live' : Nat)
    (hl' : ∀ t, hasBit live' t = (decide (id = t) || (hasBit s.live t && !decide (cons = some t)))) (hcons : ∀ τ, cons = some τ → hasBit s.live τ = true)
    {et : TypeId} {e : Ty} {xs : List e.den} {inner : List Value} {v' : Value} {w' : World} (hown : w'.ownsRow w0.heap.size et e.sz v' xs.length inner)
    (hg : w.grownBy w' (cons.bind m.G)) (hat : v'.ownBlock = cons.bind m.G ∨ ∃ b, v'.ownBlock = some b ∧ w.heap.size ≤ b)
    (hpre : ∀ τ k, cons = some τ → m.G τ = some k → ∀ o, o < m.E τ → w'.cell? ⟨k, o, none⟩ = w.cell? ⟨k, o, none⟩) (hE : ∀ τ, cons = some τ → m.E τ ≤ inner.length)
    (hr : repsOf (rep w (vw w0 Nin s m w).N e) xs inner) :
    ∃ m', Inv w0 Nin (fun k => D k ∨ k = n) { s with live := live' } m' a w' ∧ V (vw w0 Nin { s with live := live' } m' w') (.own id et e xs) v' := by
  have hu : ¬ m.U id := fun hu => hn (hid ▸ h.uD id hu)
  have hne : ∀ t, m.U t → id ≠ t := fun t ht he => hu (he ▸ ht)
  refine ⟨{ G := fun t => if id = t then v'.ownBlock else m.G t, E := fun t => if id = t then inner.length else m.E t, U := fun t => m.U t ∨ t = id, B := m.B }, ?_⟩
  have bits : ∀ t, hasBit live' t = true → t = id ∨ (hasBit s.live t = true ∧ cons ≠ some t) := by
    intro t ht
    rw [hl' t, Bool.or_eq_true] at ht
    rcases ht with ht | ht
    · exact .inl (of_decide_eq_true ht).symm
    · rw [Bool.and_eq_true] at ht
      exact .inr ⟨ht.1, by simpa using ht.2⟩
  have newU : ∀ t, ¬ m.U t → hasBit live' t = true → t = id := by
    intro t ht hl
    rcases bits t hl with rfl | ⟨h1, _⟩
    · rfl
    · exact (ht (h.liveU t h1)).elim
  have hlt : ∀ k, v'.ownBlock = some k → w0.heap.size ≤ k ∧ k < w'.heap.size := hown.lt
  obtain ⟨hto, hinv⟩ := grow_step (s' := { s with live := live' }) (D' := fun k => D k ∨ k = n) h rfl rfl rfl cons hcons hg
    (m' := { G := fun t => if id = t then v'.ownBlock else m.G t, E := fun t => if id = t then inner.length else m.E t, U := fun t => m.U t ∨ t = id, B := m.B })
    (h.below.grown hg h.below.size (fun k hk => by
      cases hc : cons with
      | none => rw [hc] at hk; cases hk
      | some τ => rw [hc] at hk; exact (h.toks τ k (hcons τ hc) hk).1))
    (fun _ ht => .inl ht) (fun t ht => ⟨if_neg (hne t ht), if_neg (hne t ht)⟩)
    (fun t ht hl => by
      rcases bits t hl with rfl | h1
      · exact (hu ht).elim
      · exact h1)
    (fun t hl hc => by
      show hasBit live' t = true
      rw [hl' t, hl]
      simp [hc])
    (fun t k ht hl hG => by
      have he := newU t ht hl
      subst he
      have hG' : v'.ownBlock = some k := by simpa using hG
      refine ⟨(hlt k hG').1, (hlt k hG').2, ?_⟩
      rcases hat with hat | ⟨b, hb, hle⟩
      · exact .inr (hat ▸ hG')
      · left; rw [hb] at hG'; injection hG' with hG'; omega)
    (fun t t' k ht ht' hl hl' _ _ => (newU t ht hl).trans (newU t' ht' hl').symm)
    (fun τ k hc hG => ⟨hpre τ k hc hG, fun t ht hl _ => by
      have he := newU t ht hl
      subst he
      show m.E τ ≤ if t = t then inner.length else m.E t
      rw [if_pos rfl]
      exact hE τ hc⟩)
    (fun t ht => ht.elim (fun ht => .inl (h.uD t ht)) (fun he => .inr (he ▸ hid))) (fun k hk => .inl hk)
    (fun t hl => by
      rcases bits t hl with rfl | ⟨h1, _⟩
      · exact .inr rfl
      · exact .inl (h.liveU t h1))
  refine ⟨hinv, .inr rfl, ?_⟩
  have hO : (vw w0 Nin { s with live := live' } { G := fun t => if id = t then v'.ownBlock else m.G t, E := fun t => if id = t then inner.length else m.E t, U := fun t => m.U t ∨ t = id, B := m.B } w').Own id et e xs v' :=
    ⟨inner, hown, by show _ = if id = id then v'.ownBlock else m.G id; rw [if_pos rfl], repsOf_imp (rep_step hto.N e) xs inner hr, by show (if id = id then inner.length else m.E id) = _; rw [if_pos rfl]⟩
  have hlive : hasBit live' id = true := by rw [hl' id]; simp
  exact ⟨own_sl hO hlive, fun _ => hO⟩
theorem elemTy_sound {t et : TypeId} {e : Ty} (h : elemTy Γ t = some (et, e)) : Γ.P.underlying t = some (.slice et) ∧ Γ.typ et = some e ∧ ∃ i, Γ.P.info? et = some i ∧ i.size = e.sz ∧ 0 < i.size ∧ 0 < i.bytes ∧ bytesT Γ.P et = i.bytes ∧ ∃ z, i.zero = some z ∧ z.cells.size = i.size := by
  unfold elemTy at h
  split at h
  · rename_i et' hu
    split at h
    · rename_i ty hty
      split at h
      · rename_i hok
        simp only [Option.some.injEq, Prod.mk.injEq] at h
        obtain ⟨rfl, rfl⟩ := h
        refine ⟨hu, hty, ?_⟩
        unfold elemOk at hok
        split at hok
        · rename_i i hi
          rw [Bool.and_eq_true, Bool.and_eq_true, Bool.and_eq_true] at hok
          refine ⟨i, hi, Nat.eq_of_beq_eq_true hok.1.1.1, Nat.le_of_ble_eq_true hok.1.1.2, Nat.le_of_ble_eq_true hok.1.2, by simp [bytesT, hi], ?_⟩
          have hz := hok.2
          split at hz
          · rename_i z hz'
            exact ⟨z, hz', Nat.eq_of_beq_eq_true hz⟩
          · cases hz
        · cases hok
      · cases h
    · cases h
  · cases h
theorem cast_eq {e e' : Ty} {ys : List e'.den} {xs : List e.den} (h : (Ty.cast (a := .sl e') (b := .sl e) ys : Option (List e.den)) = some xs) : ∃ he : e' = e, (he ▸ ys : List e.den) = xs := by
  unfold Ty.cast at h
  split at h
  · rename_i hs
    have he : e' = e := Ty.same_eq (by simpa [Ty.same] using hs)
    subst he
    simp only [Option.some.injEq] at h
    exact ⟨rfl, h⟩
  · cases h
theorem headOf_sound {et : TypeId} {e : Ty} {x : AV} {v : Value} {xs : List e.den} {live : Nat} (h : headOf et e s.live x = some (xs, live)) (hi : Inv w0 Nin D s m a w) (hv : V (vw w0 Nin s m w) x v) :
    ∃ cons inner, (∀ τ, cons = some τ → hasBit s.live τ = true) ∧ (∀ t, hasBit live t = (hasBit s.live t && !decide (cons = some t))) ∧ w.ownsRow w0.heap.size et e.sz v xs.length inner ∧ v.ownBlock = cons.bind m.G ∧
      repsOf (rep w (vw w0 Nin s m w).N e) xs inner ∧ ∀ τ, cons = some τ → m.E τ = inner.length := by
  cases x with
  | own τ T e' ys =>
    simp only [headOf] at h
    split at h
    · rename_i hb
      rw [Bool.and_eq_true] at hb
      have hT : T = et := Nat.eq_of_beq_eq_true hb.2
      cases hc : (Ty.cast (a := .sl e') (b := .sl e) ys : Option (List e.den)) with
      | none => rw [hc] at h; cases h
      | some zs =>
        rw [hc] at h
        simp only [Option.map_some, Option.some.injEq, Prod.mk.injEq] at h
        obtain ⟨rfl, rfl⟩ := h
        obtain ⟨he, hz⟩ := cast_eq hc
        subst he hz hT
        obtain ⟨_, _, hO⟩ := hv
        obtain ⟨inner, h1, h2, h3, h4⟩ := hO hb.1
        refine ⟨some τ, inner, (fun t ht => by cases ht; exact hb.1), (fun t => ?_), h1, h2, h3, (fun t ht => by cases ht; exact h4)⟩
        rw [bit_del hb.1]
        simp
    · cases h
  | nilS =>
    simp only [headOf, Option.some.injEq, Prod.mk.injEq] at h
    obtain ⟨rfl, rfl⟩ := h
    have hv' : v = .slice none 0 0 := hv
    subst hv'
    exact ⟨none, [], (fun t ht => by cases ht), (fun t => by simp), World.ownsRow_nil _ _ _ _, rfl, rfl, (fun t ht => by cases ht)⟩
  | _ => simp [headOf] at h
theorem reps_of_bytes {q : Vw} (b : ByteArray) : repsOf (rep q.w q.N (.int .u8)) (bytesOf b) (byteCells b) := by
  unfold bytesOf byteCells
  generalize b.data.toList = l
  induction l with
  | nil => rfl
  | cons x l ih => exact ⟨[.int .u8 (x.toNat : Int)], _, rfl, rfl, ih⟩
theorem snd_append {n : Nat} {c : Call} {x y : Operand} {t tx : TypeId} (hn : ¬ D n)
    (hop : o.op = .call c) (hc : c.callee = .builtin .append) (ha : c.args.toList = [x, y]) (hts : c.argTypes.toList = [t, tx])
    (h : appendA Γ (8 * n) t tx (s.ev x) (s.ev y) s o.dst K = some r) (hi : Inv w0 Nin D s m a w) : o.wp Γ.P a w (Post K r w0 Nin (fun k => D k ∨ k = n)) Q := by
  have hx := hi.ev x
  have hy := hi.ev y
  have ha' : c.args = #[x, y] := by rw [← Array.toList_inj]; exact ha
  have ht' : c.argTypes = #[t, tx] := by rw [← Array.toList_inj]; exact hts
  unfold appendA at h
  split at h
  · rename_i et e hel
    obtain ⟨hu, hty, i, hinf, hsz, hs0, hb0, hbt, z, hz1, hz2⟩ := elemTy_sound hel
    split at h
    · rename_i xs live hhead
      obtain ⟨cons, inner, hc1, hc2, hown, hob, hr, hE⟩ := headOf_sound hhead hi hx
      -- what both ways share
      have go : ∀ (ys : List e.den) (news : List Value), Src Γ.P i.size tx (a.eval y) ys.length news w → repsOf (rep w (vw w0 Nin s m w).N e) ys news → (xs.length + ys.length) * bytesT Γ.P et ≤ roomOk →
          K (St.put { s with live := addBit live (8 * n) } o.dst (.own (8 * n) et e (xs ++ ys))) = some r → o.wp Γ.P a w (Post K r w0 Nin (fun k => D k ∨ k = n)) Q := by
        intro ys news hsrc hry hroom hK
        rw [hbt] at hroom
        have hown' : w.ownsRow w0.heap.size et i.size (a.eval x) xs.length inner := by rw [hsz]; exact hown
        obtain ⟨v', w', hrun, h1, h2, h3, h4⟩ := append_owned (P := Γ.P) w0.heap.size t tx o.type et i z hu hinf hz1 hz2 hs0 hb0 (a.eval x) xs.length inner hown' (a.eval y) ys.length news hsrc hroom hi.below.size
        rw [hob] at h2 h3 h4
        obtain ⟨m', hI, hV⟩ := own_fin (n := n) (id := 8 * n) (live' := addBit live (8 * n)) (xs := xs ++ ys) (inner := inner ++ news) hi hn (by omega) cons (fun t => by rw [bit_add, hc2 t, Bool.or_comm]) hc1
          (by rw [List.length_append, ← hsz]; exact h1) h2 h3
          (fun τ k hτ hG o ho => h4 k (by rw [hτ]; exact hG) o (by
            have := hE τ hτ
            have hl := hown'.1
            omega))
          (fun τ hτ => by rw [hE τ hτ, List.length_append]; omega) (repsOf_append hr hry)
        refine wp_value (v := v') (w' := w') ?_ ⟨_, m', hK, hI.put o.dst hV⟩
        simp only [execOp, hop, resolve, hc, ha', ht', List.map_toArray, List.map_cons, List.map_nil, Sem.run_bind, Sem.run_pure, Result.andThen_ok, invoke, builtin, hrun]
      split at h
      · rename_i hstr
        split at h
        · rename_i b _ hb _
          split at h
          · rename_i hroom
            rw [hb] at hy
            have hy' := V_str hy
            have h1 : i.size = 1 := hsz
            have hl : (bytesOf b).length = b.size := by unfold bytesOf; rw [List.length_map, Array.length_toList]; rfl
            refine go (bytesOf b) (byteCells b) ?_ (reps_of_bytes (q := vw w0 Nin s m w) b) (by rw [hl]; exact hroom) h
            rw [hy', h1, hl]
            exact Src.ofString w hstr b
          · cases h
        · cases h
      · rename_i et' hsl
        split at h
        · rename_i ys hys
          split at h
          · rename_i hroom
            obtain ⟨A, cp, inn, he, hlc, hrr, hcc⟩ := asSl_sound hys hy
            refine go ys inn ?_ hrr hroom h
            rw [he]
            have hlen := reps_len ys inn hrr
            rcases hcc with hcc | ⟨ad, hA, _, hcell⟩
            · subst hcc
              have h0 : ys.length = 0 := by
                rcases Nat.eq_zero_or_pos ys.length with h0 | h0
                · exact h0
                · have := Nat.mul_pos h0 (show 0 < e.sz by rw [← hsz]; exact hs0)
                  simp only [List.length_nil] at hlen
                  omega
              rw [h0]
              cases A with
              | none => exact Src.ofNil w hsl cp
              | some ad => exact Src.ofSlice w hsl ad 0 cp [] (by simp) (by simp) (fun u hu => by cases hu)
            · subst hA
              exact Src.ofSlice w hsl ad ys.length cp inn (by rw [hlen, hsz]) hcell (reps_one ys inn hrr)
          · cases h
        · cases h
      · cases h
    · cases h
  · cases h
end
end Go.Eng
