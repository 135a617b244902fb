/- ENGINE, part N: the call; every operation under one roof. -/
import Derived.Test.YtogancdiihbjfaaEngM
namespace Go.Eng
open Go Go.RowKit
theorem V_of_V2 {q : Vw} {x : AV} {v : Value} (h : V2 q x v) : V q x v := by
  cases x with
  | tup _ => exact h.elim
  | _ => exact h
section
variable {R : Type} {Γ : Ctx} {w0 : World} {Nin : Env} {D : Nat → Prop} {s : St} {m : Mp} {a : Act} {w : World} {o : Oper} {K : St → Option R} {r : R} {Q : Exit → Act → World → Prop}
theorem res_step (h : Inv w0 Nin D s m a w) {n : Nat} (hn : ¬ D n) {w' : World} (hb : Below w.heap.size w w') (sh : Sh) (hsm : sh.small = true) {N : Nat → Prop} (hN : sh.fresh = true ∨ N = (vw w0 Nin s m w).N) {x : sh.den} {v : Value}
    (hr : ResV w w' N sh x v) : ∃ m', Inv w0 Nin (fun k => D k ∨ k = n) { s with live := sh.bits (8 * n) s.live } m' a w' ∧ V (vw w0 Nin { s with live := sh.bits (8 * n) s.live } m' w') (mkAV (8 * n) sh x) v := by
  cases sh with
  | one ow t =>
    obtain ⟨h1, h2⟩ := hr
    obtain ⟨m', hI, hV⟩ := resL_step (l := [(ow, t)]) (x := (x, ())) (vs := [v]) h hn hb (by simp) (hN.imp (fun h => by simpa [Sh.fresh] using h) id) h1 h2
    exact ⟨m', hI, V_of_V2 hV.1⟩
  | tup l =>
    obtain ⟨vs, hv, h1, h2⟩ := hr
    obtain ⟨m', hI, hV⟩ := resL_step (l := l) (x := x) (vs := vs) h hn hb (Nat.le_of_ble_eq_true hsm) (hN.imp (fun h => by simpa [Sh.fresh] using h) id) h1 h2
    exact ⟨m', hI, vs, hv, hV⟩
theorem bind_some {α β : Type} {x : Option α} {f : α → Option β} {b : β} (h : x.bind f = some b) : ∃ y, x = some y ∧ f y = some b := by
  cases x with
  | none => cases h
  | some y => exact ⟨y, rfl, h⟩
theorem snd_call {n : Nat} (hn : ¬ D n) (hΓ : CallsOk Γ) {c : Call} {fo : Operand} {f : FuncId} (hop : o.op = .call c) (hc : c.callee = .value fo) (hf : s.ev fo = .fn f [])
    (h : callA Γ (8 * n) f ((c.args.toList).map s.ev) c.argTypes.toList s o.dst K = some r) (hi : Inv w0 Nin D s m a w) : o.wp Γ.P a w (Post K r w0 Nin (fun k => D k ∨ k = n)) Q := by
  unfold callA at h
  split at h
  · rename_i vs hvs
    split at h
    · rename_i hcond
      rw [Bool.and_eq_true] at hcond
      obtain ⟨res, hcall, hK⟩ := bind_some h
      have hargs := byVals_V hi c.args.toList c.argTypes.toList vs hvs hcond.1
      have hfv : a.eval fo = .func (.func f) #[] #[] := by
        have := hi.ev fo
        rw [hf] at this
        obtain ⟨vs, he, h2⟩ := (show ∃ vs : List Value, _ ∧ _ from this)
        cases vs with
        | nil => exact he
        | cons _ _ => exact h2.elim
      rcases hΓ.ok f vs res hcall with ⟨⟨fn, hfn, hname, hbody⟩, hcon⟩ | ⟨_, hext⟩
      case inr =>
        obtain ⟨v, hv, hres⟩ := hext w (if (Γ.sh f).fresh = true then fun _ => True else (vw w0 Nin s m w).N) (c.args.toList.map a.eval) hargs
        have hrun : (execOp a.eval o).run Γ.P w = .ok (.value v) w := by
          simp only [execOp, hop, resolve, hc, hfv, Deferred.ofValue, Sem.run_bind, Sem.run_pure, Result.andThen_ok, invoke]
          have e : (c.args.toList.map a.eval).toArray = c.args.map a.eval := by rw [← Array.toList_inj]; simp
          rw [e] at hv
          simpa using hv
        obtain ⟨m', hI, hV⟩ := res_step hi hn (Below.refl _ _) (Γ.sh f) hcond.2 (by
          cases hfr : (Γ.sh f).fresh with
          | true => exact .inl rfl
          | false => exact .inr (by simp [hfr])) hres
        exact wp_value hrun ⟨_, m', hK, hI.put o.dst hV⟩
      have hcalls := hcon w (if (Γ.sh f).fresh = true then fun _ => True else (vw w0 Nin s m w).N) (c.args.toList.map a.eval) hargs
      have hname' : ¬ fn.name = "runtime.NumGoroutine" := by simpa using hname
      have hbody' : fn.body.isNone = false := by cases hb : fn.body with
        | none => rw [hb] at hbody; cases hbody
        | some _ => rfl
      have hrun : (execOp a.eval o).run Γ.P w = .ok (.enter f (c.args.toList.map a.eval).toArray) w := by
        simp only [execOp, hop, resolve, hc, hfv, Deferred.ofValue, Sem.run_bind, Sem.run_pure, Result.andThen_ok, invoke, callFunc, run_program]
        rw [hfn]
        simp only
        rw [if_neg (by simpa using hname'), if_neg (by simp [hbody'])]
        simp
        rw [← Array.toList_inj]
        simp
      unfold Oper.wp
      rw [hrun]
      show Calls Γ.P f _ w _
      refine hcalls.mono ?_
      rintro e w' ⟨v, rfl, hbelow, hres⟩
      obtain ⟨m', hI, hV⟩ := res_step hi hn hbelow (Γ.sh f) hcond.2 (by
        cases hfr : (Γ.sh f).fresh with
        | true => exact .inl rfl
        | false => exact .inr (by simp [hfr])) hres
      exact ⟨_, m', hK, hI.put o.dst hV⟩
    · cases h
  · cases h
theorem Post.wider {D' : Nat → Prop} (h : ∀ k, D k → D' k) {a : Act} {w : World} (hp : Post K r w0 Nin D a w) : Post K r w0 Nin D' a w := by
  obtain ⟨s', m', h1, h2⟩ := hp
  exact ⟨s', m', h1, h2.wider h⟩
theorem aOp_sound {n : Nat} (hn : ¬ D n) (hΓ : CallsOk Γ) (h : aOp Γ n o s K = some r) (hi : Inv w0 Nin D s m a w) : o.wp Γ.P a w (Post K r w0 Nin (fun k => D k ∨ k = n)) Q := by
  have up : o.wp Γ.P a w (Post K r w0 Nin D) Q → o.wp Γ.P a w (Post K r w0 Nin (fun k => D k ∨ k = n)) Q :=
    Oper.wp_mono (fun _ _ hp => hp.wider (fun _ hk => .inl hk))
  cases hop : o.op with
  | move x => simp only [aOp, hop] at h; exact up (quiet_fin (v := a.eval x) (by simp [execOp, hop]) (hi.ev x) h hi)
  | assign x => simp only [aOp, hop] at h; exact up (quiet_fin (v := a.eval x) (by simp [execOp, hop]) (hi.ev x) h hi)
  | pick c x y => simp only [aOp, hop] at h; exact up (snd_pick hop h hi)
  | box T x => simp only [aOp, hop] at h; exact snd_box hn hop h hi
  | alloc T => simp only [aOp, hop] at h; exact snd_alloc hn hop h hi
  | load T x => simp only [aOp, hop] at h; exact up (snd_load hop h hi)
  | store T x y => simp only [aOp, hop] at h; exact up (snd_store hop h hi)
  | nilCheck x => simp only [aOp, hop] at h; exact up (snd_nilCheck hop h hi)
  | fieldAddr S x f => simp only [aOp, hop] at h; exact up (snd_fieldAddr hop h hi)
  | field S x f => simp only [aOp, hop] at h; exact up (snd_field hop h hi)
  | indexAddr t x ix => simp only [aOp, hop] at h; exact up (snd_indexAddr hop h hi)
  | index t x ix => simp only [aOp, hop] at h; exact up (snd_index hop h hi)
  | slice t x lo hi' mx =>
    simp only [aOp, hop] at h
    refine up ?_
    split at h
    · rename_i l h' hl hh hu
      split at h
      · rename_i b hb
        exact snd_sliceStr hop hu hb hl hh h hi
      · cases h
    · rename_i l h' et hl hh hu
      split at h
      · rename_i e ys hsl
        split at h
        · rename_i hok
          exact snd_sliceSl hop hu hsl hok hl hh h hi
        · cases h
      · split at h
        · rename_i hn
          rw [Bool.and_eq_true] at hn
          have hx : s.ev x = .nilS := by
            have := hn.1
            revert this
            generalize s.ev x = X
            cases X <;> simp [isNil]
          exact snd_sliceNil hop hu hx hn.2 hl hh h hi
        · cases h
    · cases h
  | makeSlice t l c => simp only [aOp, hop] at h; exact snd_makeSlice hn hop h hi
  | buildSlice t len parts => simp only [aOp, hop] at h; exact snd_buildSlice hn hop h hi
  | build t parts => simp only [aOp, hop] at h; exact up (snd_build hop h hi)
  | extract x i => simp only [aOp, hop] at h; exact up (snd_extract hop h hi)
  | makeFunc fn first caps => simp only [aOp, hop] at h; exact up (snd_makeFunc hop h hi)
  | binOp op t x y yt => simp only [aOp, hop] at h; exact up (snd_bin hop h (fun neg xs ys h1 h2 h3 h4 => snd_aggEq hop neg xs ys h1 h2 h3 h4 hi) hi)
  | unOp op t x => simp only [aOp, hop] at h; exact up (snd_un hop h hi)
  | convert src dst x => exact up (snd_conv hop (by simp only [aOp, hop] at h ⊢; exact h) hi)
  | call c =>
    simp only [aOp, hop] at h
    split at h
    · rename_i f hc
      split at h
      · rename_i f' hf
        exact snd_call hn hΓ hop hc hf h hi
      · cases h
    · rename_i hc
      split at h
      · rename_i x t ha ht
        exact up (snd_len hop hc ha ht h hi)
      · cases h
    · rename_i hc
      split at h
      · rename_i x y ha
        exact up (snd_mm false hop hc ha h hi)
      · cases h
    · rename_i hc
      split at h
      · rename_i x y ha
        exact up (snd_mm true hop hc ha h hi)
      · cases h
    · rename_i hc
      split at h
      · rename_i x y t tx ha ht
        exact snd_append hn hop hc ha ht h hi
      · cases h
    · cases h
  | _ => simp [aOp, hop] at h
theorem args_V (hi : Inv w0 Nin D s m a w) : ∀ l : List Operand, all2 (V (vw w0 Nin s m w)) (l.map s.ev) (l.map a.eval)
  | [] => trivial
  | x :: l => ⟨hi.ev x, args_V hi l⟩
/-- A call that is reckoned inside. -/
theorem caps_V : ∀ {caps : List AV} {vs : List Value}, all2 (Vp (vw w0 Nin s m w)) caps vs → all2 (V (vw w0 Nin s m w)) caps vs
  | [], [], _ => trivial
  | x :: caps, v :: vs, ⟨h0, h1⟩ => ⟨by cases x <;> first | exact h0 | exact h0.elim, caps_V h1⟩
theorem inlOf_spec {f : FuncId} {caps : List AV} {c : Call} (h : inlOf s o = some (f, caps, c)) (hi : Inv w0 Nin D s m a w) :
    ∃ fo vs, o.op = .call c ∧ c.callee = .value fo ∧ a.eval fo = .func (.func f) #[] vs.toArray ∧ all2 (V (vw w0 Nin s m w)) caps vs := by
  unfold inlOf at h
  split at h
  · rename_i c' hop
    split at h
    · rename_i f' hc
      simp only [Option.some.injEq, Prod.mk.injEq] at h
      obtain ⟨rfl, rfl, rfl⟩ := h
      exact ⟨.func f', [], hop, hc, rfl, trivial⟩
    · rename_i t hc
      split at h
      · rename_i f' caps' ht
        simp only [Option.some.injEq, Prod.mk.injEq] at h
        obtain ⟨rfl, rfl, rfl⟩ := h
        have hv := hi.ev (.tmp t)
        have hv' : V (vw w0 Nin s m w) (s.t.getD t .bad) (a.eval (.tmp t)) := hv
        rw [ht] at hv'
        obtain ⟨vs, he, h2⟩ := (show ∃ vs : List Value, _ ∧ _ from hv')
        exact ⟨.tmp t, vs, hop, hc, he, caps_V h2⟩
      · cases h
    · cases h
  · cases h
theorem snd_inl (hΓ : CallsOk Γ) {f : FuncId} {caps : List AV} {c : Call} (hI : inlOf s o = some (f, caps, c)) {x : AV} {s' : St} (h : Γ.inl (AV × St) f (c.args.toList.map s.ev ++ caps) s (fun v s' => some (v, s')) = some (x, s'))
    (hi : Inv w0 Nin (fun k => k < s.bx.length) s m a w) {Kp : Act → World → Prop} (hK : ∀ a' w', (∃ m', Inv w0 Nin (fun k => k < s'.bx.length) (s'.put o.dst x) m' a' w') → Kp a' w') : o.wp Γ.P a w Kp Q := by
  obtain ⟨fo, vs, hop, hc, hfv, hcv⟩ := inlOf_spec hI hi
  obtain ⟨⟨fn, hfn, hname, hbody⟩, hcon⟩ := hΓ.inl f _ s x s' h
  have hcalls := hcon w0 Nin m a w hi (c.args.toList.map a.eval ++ vs) (all2_append (args_V hi c.args.toList) hcv)
  have hname' : ¬ fn.name = "runtime.NumGoroutine" := by simpa using hname
  have hbody' : fn.body.isNone = false := by cases hb : fn.body with
    | none => rw [hb] at hbody; cases hbody
    | some _ => rfl
  have hrun : (execOp a.eval o).run Γ.P w = .ok (.enter f (c.args.toList.map a.eval ++ vs).toArray) w := by
    simp only [execOp, hop, resolve, hc, hfv, Deferred.ofValue, Sem.run_bind, Sem.run_pure, Result.andThen_ok, invoke, callFunc, run_program]
    rw [hfn]
    simp only
    rw [if_neg (by simpa using hname'), if_neg (by simp [hbody'])]
    simp
  unfold Oper.wp
  rw [hrun]
  show Calls Γ.P f _ w _
  refine hcalls.mono ?_
  rintro e w' ⟨v, rfl, m', hI', hV⟩
  exact hK _ _ ⟨m', hI'.put o.dst hV⟩
theorem goInl_nat {R : Type} (hΓ : CallsOk Γ) {s : St} {K : St → Option R} : goInl Γ o s K = (goInl Γ o s some).bind K := by
  unfold goInl
  split
  · rw [hΓ.nat R, hΓ.nat St, Option.bind_assoc]
    rfl
  · rfl
theorem aInl_nat {R : Type} (hΓ : CallsOk Γ) {ops : Array Oper} {K : St → Option R} : aInl Γ ops o s K = (aInl Γ ops o s some).bind K := by
  unfold aInl
  split
  · exact goInl_nat hΓ
  · split
    · rfl
    · split
      · rename_i b _
        cases (b : Bool) == _ with
        | true => exact goInl_nat hΓ
        | false => rfl
      · rfl
      · rfl
end
end Go.Eng
