/- ENGINE, part Q: guards; the exchange of two operations. -/
import Derived.Test.YtogancdiihbjfaaEngP
namespace Go.Eng
open Go Go.RowKit
def guardTmp (ops : Array Oper) (o : Oper) : List Tmp := match o.guard with
  | some (g, _) => ((ops[g]?).bind (·.dst)).toList
  | none => []
section
variable {R : Type} {Γ : Ctx} {n : Nat} {ops : Array Oper} {o : Oper} {s s1 : St} {K : St → Option R}
theorem getD_lt {l : List AV} {g : Nat} {x : AV} (h : l.getD g .bad = x) (hx : x ≠ .bad) : g < l.length ∧ l[g]? = some x := by
  rw [List.getD_eq_getElem?_getD] at h
  cases hg : l[g]? with
  | none => rw [hg] at h; exact (hx h.symm).elim
  | some y => rw [hg] at h; exact ⟨(List.getElem?_eq_some_iff.1 hg).1, by rw [← h]; rfl⟩
theorem self_put {g : Nat} {x : AV} (h : s.t.getD g .bad = x) (hx : x ≠ .bad) : s.put (some g) x = s := by
  obtain ⟨hlt, hg⟩ := getD_lt h hx
  have : s.t.set g x = s.t := by
    have hgx : s.t[g] = x := by rw [List.getElem?_eq_getElem hlt] at hg; exact Option.some.inj hg
    rw [← hgx]; exact List.set_getElem_self _
  show { s with t := s.t.set g x } = s
  rw [this]
theorem aGuard_nat : aGuard Γ ops n o s K = (aGuard Γ ops n o s some).bind K := by
  unfold aGuard
  split
  · exact aOp_nat
  · split
    · rfl
    · split
      · rename_i _ want _ _ g _ _ b _
        have hb : ∀ c : Bool, (bif c then aOp Γ n o (s.put (some g) (.v .bool want)) K else K ((s.put (some g) (.v .bool (!want))).put o.dst (.raw undef))) = (bif c then aOp Γ n o (s.put (some g) (.v .bool want)) some else some ((s.put (some g) (.v .bool (!want))).put o.dst (.raw undef))).bind K := by
          intro c
          cases c
          · rfl
          · exact aOp_nat
        exact hb _
      · rfl
      · rfl
/-- Under its guard an operation is done, or is left out. -/
theorem guard_cases (h : aGuard Γ ops n o s some = some s1) :
    (aOp Γ n o s some = some s1 ∧ ∀ s' : St, (∀ g ∈ guardTmp ops o, s'.t.getD g .bad = s.t.getD g .bad) → aGuard Γ ops n o s' some = aOp Γ n o s' some) ∨
    (s1 = s.put o.dst (.raw undef) ∧ ∀ s' : St, (∀ g ∈ guardTmp ops o, s'.t.getD g .bad = s.t.getD g .bad) → aGuard Γ ops n o s' some = some (s'.put o.dst (.raw undef))) := by
  unfold aGuard at h ⊢
  cases hg : o.guard with
  | none =>
    rw [hg] at h
    exact .inl ⟨h, fun s' _ => rfl⟩
  | some p =>
    obtain ⟨j, want⟩ := p
    rw [hg] at h
    simp only at h ⊢
    cases hd : (ops[j]?).bind (·.dst) with
    | none => rw [hd] at h; cases h
    | some g =>
      rw [hd] at h
      simp only at h ⊢
      have hmem : g ∈ guardTmp ops o := by simp [guardTmp, hg, hd]
      split at h
      · rename_i b hb
        cases hbw : b == want with
        | true =>
          have hbe : b = want := by simpa using hbw
          subst hbe
          rw [hbw] at h
          simp only [cond_true] at h
          rw [self_put hb (by simp)] at h
          refine .inl ⟨h, fun s' hs => ?_⟩
          rw [hs g hmem, hb]
          simp only [hbw, cond_true]
          rw [self_put ((hs g hmem).trans hb) (by simp)]
        | false =>
          have hbe : b = !want := by cases b <;> cases want <;> first | rfl | (cases hbw)
          rw [hbw] at h
          simp only [cond_false, Option.some.injEq] at h
          rw [self_put (by rw [hb, hbe]) (by simp)] at h
          refine .inr ⟨h.symm, fun s' hs => ?_⟩
          rw [hs g hmem, hb]
          simp only [hbw, cond_false]
          rw [self_put ((hs g hmem).trans (by rw [hb, hbe])) (by simp)]
      · rename_i vs hb
        simp only [Option.some.injEq] at h
        exact .inr ⟨h.symm, fun s' hs => by rw [hs g hmem, hb]⟩
      · cases h
def sameFor (ops : Array Oper) (o : Oper) (s' s : St) : Prop := (∀ x ∈ o.op.operands, s'.ev x = s.ev x) ∧ ∀ g ∈ guardTmp ops o, s'.t.getD g .bad = s.t.getD g .bad
theorem guard_gen (hw : clsOf Γ o ≠ .wr) (h : aGuard Γ ops n o s some = some s1) : ∃ z bx lv, s1 = St.put ⟨s.t, bx, lv, s.g⟩ o.dst z ∧ (clsOf Γ o = .app → bx = s.bx) ∧
    ∀ s' : St, sameFor ops o s' s → s'.bx = s.bx → s'.live = s.live → aGuard Γ ops n o s' some = some (St.put ⟨s'.t, bx, lv, s'.g⟩ o.dst z) := by
  rcases guard_cases h with ⟨h1, h2⟩ | ⟨h1, h2⟩
  · obtain ⟨z, bx, lv, h3, h5, h4⟩ := gen_eff hw h1
    exact ⟨z, bx, lv, h3, h5, fun s' hs hbx hlv => by rw [h2 s' hs.2]; exact h4 s' hs.1 hbx hlv⟩
  · exact ⟨_, s.bx, s.live, h1, fun _ => rfl, fun s' hs hbx hlv => by rw [h2 s' hs.2, ← hbx, ← hlv]⟩
theorem guard_free (hc : clsOf Γ o ≠ .other) (hw : clsOf Γ o ≠ .wr) (ha : clsOf Γ o ≠ .app) (h : aGuard Γ ops n o s some = some s1) : ∃ z M, s1 = St.put { s with live := s.live ||| M } o.dst z ∧ (clsOf Γ o = .pure → M = 0) ∧
    ∀ s' : St, sameFor ops o s' s → (clsOf Γ o = .load → s'.bx = s.bx) → aGuard Γ ops n o s' some = some (St.put { s' with live := s'.live ||| M } o.dst z) := by
  rcases guard_cases h with ⟨h1, h2⟩ | ⟨h1, h2⟩
  · obtain ⟨z, h3, h4⟩ := free_eff hc hw ha h1
    exact ⟨z, _, h3, fun hp => mask_pure hp, fun s' hs hbx => by rw [h2 s' hs.2]; exact h4 s' hs.1 (fun T a ho => hbx (load_cls ho))⟩
  · exact ⟨_, 0, by simpa using h1, fun _ => rfl, fun s' hs _ => by rw [h2 s' hs.2]; simp⟩
def setO (t : List AV) (d : Option Tmp) (x : AV) : List AV := match d with
  | some d => t.set d x
  | none => t
theorem put_t (d : Option Tmp) (x : AV) (t : List AV) (bx : List (Option (TypeId × List AV))) (lv : Nat) (g : List AV) : St.put ⟨t, bx, lv, g⟩ d x = ⟨setO t d x, bx, lv, g⟩ := by cases d <;> rfl
theorem same_put {s' : St} {d : Option Tmp} {x : AV} (hs : s'.t = setO s.t d x) (hd : ∀ k, d = some k → k ∉ o.looksAt ops) : sameFor ops o s' s := by
  have hget : ∀ g, g ∈ o.looksAt ops → s'.t.getD g .bad = s.t.getD g .bad := by
    intro g hg
    rw [hs]
    cases d with
    | none => rfl
    | some k =>
      have hne : k ≠ g := fun he => hd k rfl (he ▸ hg)
      simp only [setO]
      rw [List.getD_eq_getElem?_getD, List.getD_eq_getElem?_getD, List.getElem?_set_ne hne]
  refine ⟨fun y hy => ?_, fun g hg => hget g ?_⟩
  · cases y with
    | tmp t =>
      refine hget t ?_
      unfold Oper.looksAt
      exact List.mem_append_left _ (List.mem_filterMap.2 ⟨.tmp t, by simpa using hy, rfl⟩)
    | _ => rfl
  · unfold Oper.looksAt
    refine List.mem_append_right _ ?_
    unfold guardTmp at hg
    split at hg
    · rename_i heq; rw [heq]; exact hg
    · cases hg
theorem setD_comm (t : List AV) {d e : Option Tmp} (x y : AV) (h : ∀ k, d = some k → e ≠ some k) : setO (setO t d x) e y = setO (setO t e y) d x := by
  cases d with
  | none => cases e <;> rfl
  | some d =>
    cases e with
    | none => rfl
    | some e => exact List.set_comm _ _ (fun he => h d rfl (by rw [he]))
/-- THE EXCHANGE. -/
theorem comm {y i : Oper} {ny ni : Nat} {s s1 s2 : St} (hap : y.apart ops i = true) (hcf : clsFree (clsOf Γ y) (clsOf Γ i) = true) (h1 : aGuard Γ ops ny y s some = some s1) (h2 : aGuard Γ ops ni i s1 some = some s2) :
    ∃ s1', aGuard Γ ops ni i s some = some s1' ∧ aGuard Γ ops ny y s1' some = some s2 := by
  obtain ⟨p1, p2, p3⟩ := Oper.apart_spec hap
  have hyw : clsOf Γ y ≠ .wr := by intro h; rw [h] at hcf; cases hcf
  have hiw : clsOf Γ i ≠ .wr := by intro h; rw [h] at hcf; cases hh : clsOf Γ y <;> rw [hh] at hcf <;> cases hcf
  by_cases hy : clsOf Γ y = .pure
  · obtain ⟨zy, M, e1, hM, f1⟩ := guard_free (by rw [hy]; simp) hyw (by rw [hy]; simp) h1
    have hM0 := hM hy
    subst hM0
    obtain ⟨zi, bx, lv, e2, _, f2⟩ := guard_gen hiw h2
    have hs1 : s1 = ⟨setO s.t y.dst zy, s.bx, s.live, s.g⟩ := by rw [e1, put_t]; simp
    have hsame : sameFor ops i s s1 := by
      have := same_put (ops := ops) (o := i) (s := s) (s' := s1) (d := y.dst) (x := zy) (by rw [hs1]) (fun k hk => p1 k hk)
      exact ⟨fun x hx => (this.1 x hx).symm, fun g hg => (this.2 g hg).symm⟩
    have hi := f2 s hsame (by rw [hs1]) (by rw [hs1])
    refine ⟨_, hi, ?_⟩
    have hy' := f1 (St.put ⟨s.t, bx, lv, s.g⟩ i.dst zi) (same_put (d := i.dst) (x := zi) (by rw [put_t]) (fun k hk => p3 k hk)) (by rw [hy]; intro h; cases h)
    rw [hy', e2, hs1]
    simp only [put_t, Nat.or_zero]
    congr 2
    exact (setD_comm s.t zy zi (fun k hk => p2 k hk)).symm
  · by_cases hi : clsOf Γ i = .pure
    · obtain ⟨zy, bx, lv, e1, _, f1⟩ := guard_gen hyw h1
      obtain ⟨zi, M, e2, hM, f2⟩ := guard_free (by rw [hi]; simp) hiw (by rw [hi]; simp) h2
      have hM0 := hM hi
      subst hM0
      have hs1 : s1 = ⟨setO s.t y.dst zy, bx, lv, s.g⟩ := by rw [e1, put_t]
      have hsame : sameFor ops i s s1 := by
        have := same_put (ops := ops) (o := i) (s := s) (s' := s1) (d := y.dst) (x := zy) (by rw [hs1]) (fun k hk => p1 k hk)
        exact ⟨fun x hx => (this.1 x hx).symm, fun g hg => (this.2 g hg).symm⟩
      have hi' := f2 s hsame (by rw [hi]; intro h; cases h)
      refine ⟨_, hi', ?_⟩
      have hy' := f1 (St.put { s with live := s.live ||| 0 } i.dst zi) (same_put (d := i.dst) (x := zi) (by rw [put_t]) (fun k hk => p3 k hk)) (by rw [put_t]) (by rw [put_t]; simp)
      rw [hy', e2, hs1]
      simp only [put_t, Nat.or_zero]
      congr 2
      exact (setD_comm s.t zy zi (fun k hk => p2 k hk)).symm
    · by_cases hla : clsOf Γ i = .app
      · -- a load, and what is appended
        have hyl : clsOf Γ y = .load := by rw [hla] at hcf; cases hh : clsOf Γ y <;> rw [hh] at hcf hy <;> first | rfl | (exact (hy rfl).elim) | (cases hcf)
        obtain ⟨zy, M, e1, _, f1⟩ := guard_free (by rw [hyl]; simp) hyw (by rw [hyl]; simp) h1
        obtain ⟨zi, bx, lv, e2, hbx, f2⟩ := guard_gen hiw h2
        have hbx' := hbx hla
        have hs1 : s1 = ⟨setO s.t y.dst zy, s.bx, s.live ||| M, s.g⟩ := by rw [e1, put_t]
        obtain ⟨M0, e1', f1'⟩ : ∃ z, s1 = s.put y.dst z ∧ ∀ s' : St, sameFor ops y s' s → s'.bx = s.bx → aGuard Γ ops ny y s' some = some (s'.put y.dst z) := by
          rcases guard_cases h1 with ⟨c1, c2⟩ | ⟨c1, c2⟩
          · obtain ⟨z, c3, c4⟩ := free_eff (by rw [hyl]; simp) hyw (by rw [hyl]; simp) c1
            have hm : maskOf Γ ny y = 0 := mask_load hyl
            rw [hm] at c3
            refine ⟨z, by simpa using c3, fun s' hs hb => ?_⟩
            have := c4 s' hs.1 (fun _ _ _ => hb)
            rw [hm] at this
            rw [c2 s' hs.2, this]; simp
          · exact ⟨_, c1, fun s' hs _ => c2 s' hs.2⟩
        have hs1' : s1 = ⟨setO s.t y.dst M0, s.bx, s.live, s.g⟩ := by rw [e1', ← put_t]
        have hsame : sameFor ops i s s1 := by
          have := same_put (ops := ops) (o := i) (s := s) (s' := s1) (d := y.dst) (x := M0) (by rw [hs1']) (fun k hk => p1 k hk)
          exact ⟨fun x hx => (this.1 x hx).symm, fun g hg => (this.2 g hg).symm⟩
        have hi' := f2 s hsame (by rw [hs1']) (by rw [hs1'])
        refine ⟨_, hi', ?_⟩
        have hy' := f1' (St.put ⟨s.t, bx, lv, s.g⟩ i.dst zi) (same_put (d := i.dst) (x := zi) (by rw [put_t]) (fun k hk => p3 k hk)) (by rw [put_t]; rw [hbx', hs1'])
        rw [hy', e2, hs1']
        simp only [put_t]
        congr 2
        exact (setD_comm s.t M0 zi (fun k hk => p2 k hk)).symm
      by_cases hya : clsOf Γ y = .app
      · have hil : clsOf Γ i = .load := by rw [hya] at hcf; cases hh : clsOf Γ i <;> rw [hh] at hcf hi <;> first | rfl | (exact (hi rfl).elim) | (cases hcf)
        obtain ⟨zy, bx, lv, e1, hbx, f1⟩ := guard_gen hyw h1
        have hbx' := hbx hya
        have hs1 : s1 = ⟨setO s.t y.dst zy, bx, lv, s.g⟩ := by rw [e1, put_t]
        obtain ⟨zi, e2, f2⟩ : ∃ z, s2 = s1.put i.dst z ∧ ∀ s' : St, sameFor ops i s' s1 → s'.bx = s1.bx → aGuard Γ ops ni i s' some = some (s'.put i.dst z) := by
          rcases guard_cases h2 with ⟨c1, c2⟩ | ⟨c1, c2⟩
          · obtain ⟨z, c3, c4⟩ := free_eff (by rw [hil]; simp) hiw (by rw [hil]; simp) c1
            have hm : maskOf Γ ni i = 0 := mask_load hil
            rw [hm] at c3
            refine ⟨z, by simpa using c3, fun s' hs hb => ?_⟩
            have := c4 s' hs.1 (fun _ _ _ => hb)
            rw [hm] at this
            rw [c2 s' hs.2, this]; simp
          · exact ⟨_, c1, fun s' hs _ => c2 s' hs.2⟩
        have hsame : sameFor ops i s s1 := by
          have := same_put (ops := ops) (o := i) (s := s) (s' := s1) (d := y.dst) (x := zy) (by rw [hs1]) (fun k hk => p1 k hk)
          exact ⟨fun x hx => (this.1 x hx).symm, fun g hg => (this.2 g hg).symm⟩
        have hi' := f2 s hsame (by rw [hs1, hbx'])
        refine ⟨_, hi', ?_⟩
        have hy' := f1 (s.put i.dst zi) (by
          have : s = ⟨s.t, s.bx, s.live, s.g⟩ := rfl
          exact same_put (d := i.dst) (x := zi) (by rw [this, put_t]) (fun k hk => p3 k hk)) (put_bx _ _) (put_live _ _)
        rw [hy', e2, hs1]
        have : s = ⟨s.t, s.bx, s.live, s.g⟩ := rfl
        rw [this]
        simp only [put_t]
        congr 2
        exact (setD_comm s.t zy zi (fun k hk => p2 k hk)).symm
      have ny_ : clsOf Γ y ≠ .other := by intro h; rw [h] at hcf; cases hh : clsOf Γ i <;> rw [hh] at hcf hi <;> first | (exact hi rfl) | (cases hcf)
      have ni_ : clsOf Γ i ≠ .other := by intro h; rw [h] at hcf; cases hh : clsOf Γ y <;> rw [hh] at hcf hy <;> first | (exact hy rfl) | (cases hcf)
      obtain ⟨zy, My, e1, _, f1⟩ := guard_free ny_ hyw hya h1
      obtain ⟨zi, Mi, e2, _, f2⟩ := guard_free ni_ hiw hla h2
      have hs1 : s1 = ⟨setO s.t y.dst zy, s.bx, s.live ||| My, s.g⟩ := by rw [e1, put_t]
      have hsame : sameFor ops i s s1 := by
        have := same_put (ops := ops) (o := i) (s := s) (s' := s1) (d := y.dst) (x := zy) (by rw [hs1]) (fun k hk => p1 k hk)
        exact ⟨fun x hx => (this.1 x hx).symm, fun g hg => (this.2 g hg).symm⟩
      have hi' := f2 s hsame (fun _ => by rw [hs1])
      refine ⟨_, hi', ?_⟩
      have hy' := f1 (St.put { s with live := s.live ||| Mi } i.dst zi) (same_put (d := i.dst) (x := zi) (by rw [put_t]) (fun k hk => p3 k hk)) (fun _ => by rw [put_t])
      rw [hy', e2, hs1]
      simp only [put_t]
      congr 2
      · exact (setD_comm s.t zy zi (fun k hk => p2 k hk)).symm
      · rw [Nat.or_assoc, Nat.or_assoc, Nat.or_comm Mi My]
end
end Go.Eng
