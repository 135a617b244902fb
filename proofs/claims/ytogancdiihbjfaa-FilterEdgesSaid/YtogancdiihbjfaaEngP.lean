/- ENGINE, part P: two operations that nothing orders may change places. -/
import Derived.Test.YtogancdiihbjfaaEngO
namespace Go.Eng
open Go Go.RowKit
theorem bitsL_noOwn : ∀ (l : List (Option TypeId × Ty)) (id m : Nat), (l.all fun p => !(p.1.isSome && p.2.isSl)) = true → bitsL id m l = m
  | [], _, _, _ => rfl
  | (o, t) :: l, id, m, h => by
    simp only [List.all_cons, Bool.and_eq_true] at h
    have h1 : (o.isSome && t.isSl) = false := Bool.not_eq_true' _ ▸ h.1
    simp only [bitsL, h1, Bool.false_eq_true, if_false]
    exact bitsL_noOwn l _ _ h.2
theorem bits_noOwn {sh : Sh} (h : sh.noOwn = true) (id m : Nat) : sh.bits id m = m := by
  cases sh with
  | one o t =>
    have h1 : (o.isSome && t.isSl) = false := Bool.not_eq_true' _ ▸ (show (!(o.isSome && t.isSl)) = true from h)
    simp [Sh.bits, h1]
  | tup l => exact bitsL_noOwn l id m h
section
variable {Γ : Ctx} {n : Nat} {o : Oper} {s s1 : St}
theorem mask_pure (h : clsOf Γ o = .pure) : maskOf Γ n o = 0 := by
  obtain ⟨op, hop⟩ : ∃ op, o.op = op := ⟨_, rfl⟩
  cases op with
  | makeSlice t l c => simp [clsOf, hop] at h
  | buildSlice t l c => simp [clsOf, hop] at h
  | call c =>
    cases hc : c.callee with
    | value f =>
      cases f with
      | func g =>
        simp only [clsOf, hop, hc] at h
        split at h
        · rename_i hn; simp [maskOf, hop, hc, bits_noOwn hn]
        · cases h
      | _ => simp [maskOf, hop, hc]
    | _ => simp [maskOf, hop, hc]
  | _ => simp [maskOf, hop]
theorem mask_load (h : clsOf Γ o = .load) : maskOf Γ n o = 0 := by
  obtain ⟨op, hop⟩ : ∃ op, o.op = op := ⟨_, rfl⟩
  cases op with
  | load t l => simp [maskOf, hop]
  | call c =>
    cases hc : c.callee with
    | value f =>
      cases f with
      | func g => simp only [clsOf, hop, hc] at h; split at h <;> cases h
      | _ => simp [maskOf, hop, hc]
    | _ => simp [maskOf, hop, hc]
  | _ => simp [clsOf, hop] at h
theorem load_cls {T : TypeId} {a : Operand} (h : o.op = .load T a) : clsOf Γ o = .load := by simp [clsOf, h]
/-- Any operation hangs on its operands, the boxes and the live slices alone. -/
theorem gen_eff (hw : clsOf Γ o ≠ .wr) (h : aOp Γ n o s some = some s1) : ∃ z bx lv, s1 = St.put ⟨s.t, bx, lv, s.g⟩ o.dst z ∧
    (clsOf Γ o = .app → bx = s.bx) ∧
    ∀ s' : St, (∀ x ∈ o.op.operands, s'.ev x = s.ev x) → s'.bx = s.bx → s'.live = s.live → aOp Γ n o s' some = some (St.put ⟨s'.t, bx, lv, s'.g⟩ o.dst z) := by
  by_cases hc : clsOf Γ o = .other ∨ clsOf Γ o = .app
  · obtain ⟨op, hop⟩ : ∃ op, o.op = op := ⟨_, rfl⟩
    cases op with
    | box T x =>
      simp only [aOp, hop] at h
      split at h
      · rename_i cs hcs
        split at h
        · rename_i hb
          refine ⟨_, _, _, (Option.some.inj h).symm, (by first | exact fun _ => rfl | exact fun h => by simp [clsOf, hop] at h), fun s' he hbx hlv => ?_⟩
          simp only [aOp, hop]
          rw [he x (by simp [hop, Op.operands])]
          simp only [hcs, hbx, hlv, if_pos hb]
        · cases h
      · cases h
    | alloc T =>
      simp only [aOp, hop] at h
      split at h
      · rename_i z hz
        split at h
        · rename_i cs hcs
          split at h
          · rename_i hb
            refine ⟨_, _, _, (Option.some.inj h).symm, (by first | exact fun _ => rfl | exact fun h => by simp [clsOf, hop] at h), fun s' he hbx hlv => ?_⟩
            simp only [aOp, hop]
            simp only [hz, hcs, hbx, hlv, if_pos hb]
          · cases h
        · cases h
      · cases h
    | call c =>
      simp only [aOp, hop] at h
      have hargs : ∀ s' : St, (∀ x ∈ o.op.operands, s'.ev x = s.ev x) → c.args.toList.map s'.ev = c.args.toList.map s.ev := fun s' he =>
        List.map_congr_left fun x hx => he x (by
          simp only [hop, Op.operands, Call.operands, Array.mem_append]
          exact .inr (by simpa using hx))
      split at h
      · rename_i f hcal
        have hfo : ∀ s' : St, (∀ x ∈ o.op.operands, s'.ev x = s.ev x) → s'.ev f = s.ev f := fun s' he => he f (by simp [hop, Op.operands, Call.operands, hcal])
        split at h
        · rename_i f' hf
          obtain ⟨z, h1, h2⟩ := callA_eff h
          refine ⟨z, s.bx, s.live ||| (Γ.sh f').bits (8 * n) 0, h1, fun _ => rfl, fun s' he hbx hlv => ?_⟩
          simp only [aOp, hop]; rw [hcal]; simp only; rw [hfo s' he, hf, hargs s' he]
          have := h2 s'
          rw [hbx, hlv] at this
          exact this
        · cases h
      · rename_i hcal
        simp [clsOf, hop, hcal] at hc
      · rename_i hcal
        simp [clsOf, hop, hcal] at hc
      · rename_i hcal
        simp [clsOf, hop, hcal] at hc
      · rename_i hcal
        split at h
        · rename_i x y t tx ha ht
          have hxy : ∀ s' : St, (∀ x ∈ o.op.operands, s'.ev x = s.ev x) → s'.ev x = s.ev x ∧ s'.ev y = s.ev y := fun s' he => by
            have := hargs s' he
            rw [ha] at this
            simpa using this
          have pre : ∀ s' : St, (∀ x ∈ o.op.operands, s'.ev x = s.ev x) → s'.live = s.live → aOp Γ n o s' some = appendA Γ (8 * n) t tx (s.ev x) (s.ev y) s' o.dst some := by
            intro s' he hlv
            obtain ⟨hx, hy⟩ := hxy s' he
            simp only [aOp, hop]
            rw [hcal, ha, ht]
            simp only
            rw [hx, hy]
          unfold appendA at h
          split at h
          · rename_i et e hel
            split at h
            · rename_i xs live hh
              split at h
              · rename_i hstr
                split at h
                · rename_i b _ hb _
                  split at h
                  · rename_i hroom
                    refine ⟨_, _, _, (Option.some.inj h).symm, (by first | exact fun _ => rfl | exact fun h => by simp [clsOf, hop] at h), fun s' he hbx hlv => ?_⟩
                    rw [pre s' he hlv]
                    unfold appendA
                    simp only [hel, hlv, hh, hstr, hbx, hb]
                    rw [if_pos hroom]
                  · cases h
                · cases h
              · rename_i et' hsl
                split at h
                · rename_i ys hys
                  split at h
                  · rename_i hroom
                    refine ⟨_, _, _, (Option.some.inj h).symm, (by first | exact fun _ => rfl | exact fun h => by simp [clsOf, hop] at h), fun s' he hbx hlv => ?_⟩
                    rw [pre s' he hlv]
                    unfold appendA
                    simp only [hel, hlv, hh, hsl, hbx, hys, if_pos hroom]
                  · cases h
                · cases h
              · cases h
            · cases h
          · cases h
        · cases h
      · cases h
    | _ => simp [clsOf, hop] at hc <;> simp [aOp, hop] at h
  · obtain ⟨z, h1, h2⟩ := free_eff (n := n) (fun h => hc (.inl h)) hw (fun h => hc (.inr h)) h
    exact ⟨z, s.bx, s.live ||| maskOf Γ n o, h1, fun _ => rfl, fun s' he hbx hlv => by
      have := h2 s' he (fun _ _ _ => hbx)
      rw [hbx, hlv] at this
      exact this⟩
end
end Go.Eng
