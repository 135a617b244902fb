/- ENGINE, part U: bodies are contracts; every level of the machine is sound. -/
import Derived.Test.YtogancdiihbjfaaEngT
namespace Go.Eng
open Go Go.RowKit
section
variable {Γ : Ctx} {w0 : World} {Nin : Env} {D : Nat → Prop} {s : St} {m : Mp} {a : Act} {w : World}
def readRes (tmps : Array Value) : ResultVar → Sem Value
  | .tmp t => pure (tmps.getD t undef)
  | .cell a t => do loadVar t (← asAddr (tmps.getD a undef))
theorem resA_sound (hi : Inv w0 Nin D s m a w) {rv : ResultVar} {x : AV} (h : resA Γ s rv = some x) : ∃ v, (readRes a.tmps rv).run Γ.P w = .ok v w ∧ V (vw w0 Nin s m w) x v := by
  cases rv with
  | tmp t =>
    simp only [resA, Option.some.injEq] at h
    subst h
    exact ⟨a.tmps.getD t undef, rfl, hi.ev (.tmp t)⟩
  | cell t T =>
    simp only [resA] at h
    have hx := hi.ev (.tmp t)
    split at h
    · rename_i b off hb
      have hx' : V (vw w0 Nin s m w) (s.t.getD t .bad) (a.tmps.getD t undef) := hx
      rw [hb] at hx'
      split at h
      · rename_i T' cs hbx
        obtain ⟨he, _⟩ := (show _ ∧ _ from hx')
        obtain ⟨_, vs, hh, h2, h1⟩ := hi.boxes b T' cs hbx
        obtain ⟨v, hrun, hv⟩ := part_sound (q := vw w0 Nin s m w) h (ad := ⟨m.B b, off, none⟩) (fun j z hj => by
          obtain ⟨u, hu, hv⟩ := all2_get h2 hj
          refine ⟨u, ?_, hv, h1 u (List.mem_of_getElem? hu)⟩
          rw [show (⟨m.B b, off, none⟩ : Addr).add j = ⟨m.B b, off + j, none⟩ by unfold Addr.add; split <;> simp_all]
          show w.cell? _ = _
          simp [World.cell?, hh, hu])
        refine ⟨v, ?_, hv⟩
        have he' : a.tmps.getD t undef = .pointer (some ⟨m.B b, off, none⟩) := he
        simp only [readRes, he', asAddr, pure_bind]
        exact hrun
      · cases h
    · cases h
theorem resL_sound (hi : Inv w0 Nin D s m a w) : ∀ {rs : List ResultVar} {xs : List AV}, resL Γ s rs = some xs → ∃ vs, (rs.mapM (readRes a.tmps)).run Γ.P w = .ok vs w ∧ all2 (V (vw w0 Nin s m w)) xs vs
  | [], xs, h => by simp only [resL, Option.some.injEq] at h; subst h; exact ⟨[], by simp, trivial⟩
  | rv :: rs, xs, h => by
    simp only [resL] at h
    split at h
    · rename_i x xs' h1 h2
      simp only [Option.some.injEq] at h
      subst h
      obtain ⟨v, hv1, hv2⟩ := resA_sound hi h1
      obtain ⟨vs, hvs1, hvs2⟩ := resL_sound hi h2
      exact ⟨v :: vs, by simp [List.mapM_cons, hv1, hvs1], hv2, hvs2⟩
    · cases h
theorem run_results (fn : Func) (tmps : Array Value) {P : Program} {vs : List Value} (h : (fn.results.toList.mapM (readRes tmps)).run P w = .ok vs w) :
    (results fn tmps).run P w = .ok (if h : vs.length = 1 then vs[0] else .tuple vs.toArray) w := by
  have he : results fn tmps = (do let us ← fn.results.mapM (readRes tmps); pure (if h : us.size = 1 then us[0] else .tuple us)) := by
    unfold results
    congr 1
  rw [he, Array.mapM_eq_mapM_toList]
  simp [h]
theorem to1_sound {q : Vw} {N' : Nat → Prop} (hN : ∀ b, q.N b → N' b) {live : Nat} (hlive : ∀ τ, hasBit live τ = true → q.live τ) {o : Option TypeId} {t : Ty} {x : AV} {y : t.den} {v : Value} (h : to1 live o t x = some y) (hv : V q x v) :
    Res1 q.w q.base N' o t y v ∧ ∀ k ∈ own1 (o, t) v, ∃ τ, idOf x = some τ ∧ hasBit live τ = true ∧ q.G τ = some k := by
  have plain : ∀ {t : Ty} {y : t.den}, (if t.isAgg == x.isAgg then x.asTy t else none) = some y → ∃ vs, shut t vs v ∧ rep q.w N' t y vs := by
    intro t y h
    split at h
    · rename_i hb
      have hr := rep_step (N' := N') (fun b hb => ⟨hN b hb, rfl⟩) t y _ (asTy_V h hv)
      refine ⟨_, ?_, hr⟩
      have hb' : t.isAgg = x.isAgg := by simpa using hb
      by_cases hx : x.isAgg = true
      · cases x <;> first | (cases hx; done) | skip
        obtain ⟨vs, he, _, _⟩ := (show ∃ vs, _ ∧ _ ∧ _ from hv)
        rw [he]
        cases t <;> first | rfl | (cases hb')
      · have hone : v.cells = #[v] := by
          unfold AV.asTy at h
          split at h
          · rename_i cs hc
            split at h
            · rename_i hk
              have hcs : cs = [x] := by
                cases x <;> first | (exact absurd rfl hx) | (simp [AV.cells] at hc; try exact hc.symm)
              subst hcs
              obtain ⟨_, h1⟩ := okCell_V (by simpa using hk) hv
              cases v <;> first | rfl | (simp [Value.oneCell'] at h1)
            · cases h
          · cases h
        rw [hone]
        cases t <;> first | rfl | (exact absurd hb'.symm hx)
    · cases h
  cases o with
  | none =>
    refine ⟨?_, fun k hk => by cases t <;> cases hk⟩
    have h' : (if t.isAgg == x.isAgg then x.asTy t else none) = some y := by simpa only [to1] using h
    cases t <;> exact plain h'
  | some T =>
    cases t with
    | sl e =>
      cases x with
      | own id T' e' ys =>
        simp only [to1] at h
        split at h
        · rename_i hb
          rw [Bool.and_eq_true] at hb
          have hT : T = T' := Nat.eq_of_beq_eq_true hb.2
          obtain ⟨he, hz⟩ := cast_eq h
          subst he hz hT
          obtain ⟨_, _, hO⟩ := (show _ ∧ _ ∧ _ from hv)
          obtain ⟨inner, h1, h2, h3, h4⟩ := hO (hlive id hb.1)
          refine ⟨⟨inner, h1, repsOf_imp (rep_step (fun b hb => ⟨hN b hb, rfl⟩) e') _ _ h3⟩, fun k hk => ⟨id, rfl, hb.1, ?_⟩⟩
          have : k ∈ v.ownBlock.toList := hk
          rw [h2] at this
          cases hg : q.G id with
          | none => rw [hg] at this; cases this
          | some k' => rw [hg] at this; simp at this; rw [this]
        · cases h
      | nilS =>
        simp only [to1, Option.some.injEq] at h
        subst h
        have hv' : v = .slice none 0 0 := hv
        subst hv'
        exact ⟨⟨[], World.ownsRow_nil _ _ _ _, rfl⟩, fun k hk => by simp [own1, Value.ownBlock] at hk⟩
      | _ => simp [to1] at h
    | pair a b => exact ⟨plain (t := .pair a b) (by simpa only [to1] using h), fun k hk => by cases hk⟩
    | unit => exact ⟨plain (t := .unit) (by simpa only [to1] using h), fun k hk => by cases hk⟩
    | int k => exact ⟨plain (t := .int k) (by simpa only [to1] using h), fun k hk => by cases hk⟩
    | bool => exact ⟨plain (t := .bool) (by simpa only [to1] using h), fun k hk => by cases hk⟩
    | str => exact ⟨plain (t := .str) (by simpa only [to1] using h), fun k hk => by cases hk⟩
    | flt k => exact ⟨plain (t := .flt k) (by simpa only [to1] using h), fun k hk => by cases hk⟩
theorem toL_sound {q : Vw} {N' : Nat → Prop} (hN : ∀ b, q.N b → N' b) (hinj : ∀ τ τ' k : Nat, q.live τ → q.live τ' → q.G τ = some k → q.G τ' = some k → τ = τ') :
    ∀ (l : List (Option TypeId × Ty)) (live : Nat) (xs : List AV) (y : denL l) (vs : List Value), (∀ τ, hasBit live τ = true → q.live τ) → toL live l xs = some y → all2 (V q) xs vs →
      ResL q.w q.base N' l y vs ∧ (owned l vs).Nodup ∧ ∀ k ∈ owned l vs, ∃ τ, hasBit live τ = true ∧ q.G τ = some k
  | [], _, [], _, [], _, _, _ => ⟨rfl, List.nodup_nil, fun k hk => by cases hk⟩
  | [], _, _ :: _, _, _, _, h, _ => by simp [toL] at h
  | _ :: _, _, [], _, _, _, h, _ => by simp [toL] at h
  | [], _, [], _, _ :: _, _, _, h2 => h2.elim
  | _ :: _, _, _ :: _, _, [], _, _, h2 => h2.elim
  | (o, t) :: l, live, x :: xs, y, v :: vs, hl, h, ⟨hv, hvs⟩ => by
    simp only [toL] at h
    split at h
    · rename_i y1 h1
      split at h
      · rename_i ys h2
        simp only [Option.some.injEq] at h
        subst h
        obtain ⟨c1, c2⟩ := to1_sound (N' := N') hN hl h1 hv
        have hdel : ∀ τ, hasBit (match idOf x with | some id => if hasBit live id then delBit live id else live | none => live) τ = true → hasBit live τ = true ∧ idOf x ≠ some τ := by
          intro τ hτ
          cases hid : idOf x with
          | none => rw [hid] at hτ; exact ⟨hτ, fun h => by cases h⟩
          | some id =>
            rw [hid] at hτ
            simp only at hτ
            split at hτ
            · rename_i hb
              rw [bit_del hb] at hτ
              simp only [Bool.and_eq_true, Bool.not_eq_true', decide_eq_false_iff_not] at hτ
              exact ⟨hτ.1, fun h => hτ.2 (by simpa using h)⟩
            · rename_i hb
              exact ⟨hτ, fun h => hb (by simp only [Option.some.injEq] at h; rw [h]; exact hτ)⟩
        obtain ⟨c3, c4, c5⟩ := toL_sound hN hinj l _ xs ys vs (fun τ hτ => hl τ (hdel τ hτ).1) h2 hvs
        refine ⟨⟨c1, c3⟩, ?_, fun k hk => ?_⟩
        · refine List.nodup_append.2 ⟨?_, c4, fun k hk k' hk' he => ?_⟩
          · unfold own1
            split
            · cases Value.ownBlock _ <;> simp
            · exact List.nodup_nil
          · subst he
            obtain ⟨τ, e1, e2, e3⟩ := c2 k hk
            obtain ⟨τ', e4, e5⟩ := c5 k hk'
            obtain ⟨e6, e7⟩ := hdel τ' e4
            exact e7 (by rw [e1, hinj τ τ' k (hl τ e2) (hl τ' e6) e3 e5])
        · rcases List.mem_append.1 hk with hk | hk
          · obtain ⟨τ, _, e2, e3⟩ := c2 k hk
            exact ⟨τ, e2, e3⟩
          · obtain ⟨τ, e4, e5⟩ := c5 k hk
            exact ⟨τ, (hdel τ e4).1, e5⟩
      · cases h
    · cases h
theorem toSh_sound (hi : Inv w0 Nin D s m a w) {sh : Sh} {xs : List AV} {r : sh.den} {vs : List Value} (h : toSh s.live sh xs = some r) (hv : all2 (V (vw w0 Nin s m w)) xs vs) :
    ResV w0 w Nin.N sh r (if h : vs.length = 1 then vs[0] else .tuple vs.toArray) := by
  have key : ∀ (l : List (Option TypeId × Ty)) (y : denL l), toL s.live l xs = some y →
      ResL w w0.heap.size (fun b => b < w.heap.size ∧ (b < w0.heap.size → Nin.N b) ∧ b ∉ owned l vs) l y vs ∧ (owned l vs).Nodup := by
    intro l y hl
    have hinj : ∀ τ τ' k : Nat, (vw w0 Nin s m w).live τ → (vw w0 Nin s m w).live τ' → (vw w0 Nin s m w).G τ = some k → (vw w0 Nin s m w).G τ' = some k → τ = τ' := fun τ τ' k => hi.inj τ τ' k
    have h0 := toL_sound (q := vw w0 Nin s m w) (N' := fun _ => True) (fun _ _ => trivial) hinj l s.live xs y vs (fun _ h => h) hl hv
    have h1 := toL_sound (q := vw w0 Nin s m w) (N' := fun b => b < w.heap.size ∧ (b < w0.heap.size → Nin.N b) ∧ b ∉ owned l vs) (fun b hb => ⟨hb.1, hb.2.1, fun hm => by
      obtain ⟨τ, e1, e2⟩ := h0.2.2 b hm
      exact hb.2.2.1 τ e1 e2⟩) hinj l s.live xs y vs (fun _ h => h) hl hv
    exact ⟨h1.1, h1.2.1⟩
  cases sh with
  | one o t =>
    cases xs with
    | nil => simp [toSh] at h
    | cons x xs =>
      cases xs with
      | cons _ _ => simp [toSh] at h
      | nil =>
        cases vs with
        | nil => exact hv.elim
        | cons v vs =>
          cases vs with
          | cons _ _ => exact hv.2.elim
          | nil =>
            have h' : to1 s.live o t x = some r := h
            have := key [(o, t)] (r, ()) (by simp only [toL, h'])
            exact this
  | tup l =>
    have h' : (if Nat.beq l.length 1 then none else toL s.live l xs) = some r := by
      cases xs with
      | nil => exact h
      | cons x xs => cases xs <;> exact h
    split at h'
    · cases h'
    · rename_i hne
      have hk := key l r h'
      have hlen := ResL_len hk.1
      rw [dif_neg (fun he => hne (by rw [← hlen, he]; rfl))]
      exact ⟨vs, rfl, hk.1, hk.2⟩
end
theorem body_contract {Γ : Ctx} (hΓ : CallsOk Γ) {keep : Hints} {n : Nat} {f : FuncId} {fn : Func} {sh : Sh} {args : List AV} {r : sh.den}
    (hf : Γ.P.funcs[f]? = some fn) (h : aBody Γ keep (fun R => iter (R := R) Γ keep n) fn sh args = some r) : Contract Γ.P sh f args r := by
  unfold aBody at h
  split at h
  · rename_i c hc
    intro w N vargs hv
    refine calls_of_wp hf hc ?_
    have hlen := all2_len hv
    have hto : (argVw w N).To (vw w ⟨N, []⟩ { t := args ++ List.replicate (fn.ntmps - args.length) (.raw undef), bx := [], live := 0, g := [] } { G := fun _ => none, E := fun _ => 0, U := fun _ => False, B := fun _ => 0 } w) := by
      have hNN : ∀ b, (argVw w N).N b → (vw w ⟨N, []⟩ { t := args ++ List.replicate (fn.ntmps - args.length) (.raw undef), bx := [], live := 0, g := [] } { G := fun _ => none, E := fun _ => 0, U := fun _ => False, B := fun _ => 0 } w).N b :=
        fun b hb => ⟨hb.1, fun _ => hb.2, (fun τ _ h => by cases h), (fun i T cs hi => by simp at hi)⟩
      exact ⟨rfl, fun b hb => ⟨hNN b hb, rfl⟩, fun b hi hb => ⟨hb.imp (hNN b) (fun ⟨_, h, _⟩ => h.elim), fun _ _ => rfl⟩, fun τ h => h.elim, fun b h => h.elim⟩
    have hinv : Inv w ⟨N, []⟩ (fun k => k < 0) { t := args ++ List.replicate (fn.ntmps - args.length) (.raw undef), bx := [], live := 0, g := [] } { G := fun _ => none, E := fun _ => 0, U := fun _ => False, B := fun _ => 0 }
        { tmps := vargs.toArray ++ Array.replicate (fn.ntmps - vargs.toArray.size) undef, defers := [] } w := by
      refine ⟨Below.refl _ _, rfl, ?_, ?_, ?_, ?_, ?_, ?_, ?_, ?_, ?_, ?_, trivial⟩
      · simp [hlen]
      · intro i x v hx hu
        have hu' : (vargs ++ List.replicate (fn.ntmps - vargs.length) undef)[i]? = some v := by
          rw [← Array.getElem?_toList] at hu
          simpa using hu
        have hx' : (args ++ List.replicate (fn.ntmps - args.length) (.raw undef))[i]? = some x := hx
        by_cases hi : i < args.length
        · rw [List.getElem?_append_left hi] at hx'
          rw [List.getElem?_append_left (by omega)] at hu'
          obtain ⟨u, e1, e2⟩ := all2_get hv hx'
          rw [hu'] at e1
          cases e1
          exact hto.v e2
        · rw [List.getElem?_append_right (by omega), List.getElem?_replicate] at hx'
          rw [List.getElem?_append_right (by omega), List.getElem?_replicate] at hu'
          split at hx'
          · split at hu'
            · cases hx'; cases hu'; rfl
            · cases hu'
          · cases hx'
      · intro τ k hl; simp [hasBit] at hl
      · intro τ τ' k hl; simp [hasBit] at hl
      · intro b T cs hb; simp at hb
      · intro b T cs b' T' cs' hb; simp at hb
      · intro τ k b T cs hl; simp [hasBit] at hl
      · intro τ h; exact h.elim
      · intro b T cs hb; simp at hb
      · intro τ hl; simp [hasBit] at hl
    have hw := aCode_sound hΓ (keep := keep) (iter_ok hΓ n) c _ (finA Γ fn sh) h _ _ w hinv
    refine wp_mono hw (fun e a' w' hq => ?_)
    obtain ⟨e', s', m', h1, h2, h3⟩ := hq
    have fin : ∀ {e' : AEx}, finA Γ fn sh e' s' = some r → a'.defers = [] ∧ ∃ v, (results fn a'.tmps).run Γ.P w' = .ok v w' ∧ ∃ v', Ending.returned v = .returned v' ∧ Below w.heap.size w w' ∧ ResV w w' N sh r v' := by
      intro e' h1
      have h1' : ∃ xs, resL Γ s' fn.results.toList = some xs ∧ toSh s'.live sh xs = some r := by
        cases e' with
        | exit _ => cases h1
        | normal =>
          simp only [finA] at h1
          split at h1
          · rename_i xs hxs; exact ⟨xs, hxs, h1⟩
          · cases h1
        | ret =>
          simp only [finA] at h1
          split at h1
          · rename_i xs hxs; exact ⟨xs, hxs, h1⟩
          · cases h1
      obtain ⟨xs, hxs, hr⟩ := h1'
      obtain ⟨vs, hvs1, hvs2⟩ := resL_sound h3 hxs
      exact ⟨h3.defers, _, run_results fn a'.tmps hvs1, _, rfl, h3.below, toSh_sound h3 hr hvs2⟩
    cases e with
    | normal => exact fin h1
    | ret => exact fin h1
    | exit id => cases e' <;> first | exact h2.elim | skip; cases h1
    | _ => cases e' <;> exact h2.elim
  · cases h
/-! ### reckoned inside -/
def pairK : AEx → St → Option (AEx × St) := fun e s => some (e, s)
def LNat (L : (R : Type) → LoopK R) : Prop := ∀ (R : Type) (c : Code) (s : St) (K : AEx → St → Option R), L R c s K = (L (AEx × St) c s pairK).bind fun p => K p.1 p.2
theorem aCode_nat {Γ : Ctx} (hΓ : CallsOk Γ) {keep : Hints} {L : (R : Type) → LoopK R} (hL : LNat L) : ∀ (c : Code) (R : Type) (s : St) (K : AEx → St → Option R), aCode Γ keep (L R) c s K = (aCode Γ keep (L (AEx × St)) c s pairK).bind fun p => K p.1 p.2 := by
  intro c
  induction c with
  | seq x y ihx ihy =>
    intro R s K
    simp only [aCode]
    refine (ihx R s _).trans ?_
    refine Eq.trans ?_ (congrArg (fun o => Option.bind o fun p => K p.1 p.2) (ihx (AEx × St) s _).symm)
    show _ = Option.bind (Option.bind _ _) _
    rw [Option.bind_assoc]
    congr 1
    funext p
    obtain ⟨e, s'⟩ := p
    cases e with
    | normal => exact ihy R s' K
    | exit _ => rfl
    | ret => rfl
  | cond c x y ihx ihy =>
    intro R s K
    simp only [aCode]
    split
    · rename_i b _
      cases (b : Bool) with
      | true => exact ihx R s K
      | false => exact ihy R s K
    · rfl
  | block id c ih =>
    intro R s K
    simp only [aCode]
    refine (ih R s _).trans ?_
    refine Eq.trans ?_ (congrArg (fun o => Option.bind o fun p => K p.1 p.2) (ih (AEx × St) s _).symm)
    show _ = Option.bind (Option.bind _ _) _
    rw [Option.bind_assoc]
    congr 1
    funext p
    obtain ⟨e, s'⟩ := p
    cases e with
    | normal => rfl
    | exit j =>
      simp only
      split <;> rfl
    | ret => rfl
  | loop c _ => intro R s K; exact hL R c _ K
  | scope c ih => intro R s K; simp only [aCode]; exact ih R s K
  | region id ops draw =>
    intro R s K
    simp only [aCode]
    split
    · rw [aOps_nat hΓ (K := K .normal), aOps_nat hΓ (K := pairK .normal), Option.bind_assoc]
      rfl
    · rfl
  | _ => intro R s K; first | rfl | (simp [aCode, pairK])
theorem iter_nat {Γ : Ctx} (hΓ : CallsOk Γ) {keep : Hints} : ∀ n : Nat, LNat (fun R => iter (R := R) Γ keep n)
  | 0 => fun _ _ _ _ => rfl
  | n + 1 => by
    intro R c s K
    simp only [iter]
    refine (aCode_nat hΓ (iter_nat hΓ n) c R s _).trans ?_
    refine Eq.trans ?_ (congrArg (fun o => Option.bind o fun p => K p.1 p.2) (aCode_nat hΓ (iter_nat hΓ n) c (AEx × St) s _).symm)
    show _ = Option.bind (Option.bind _ _) _
    rw [Option.bind_assoc]
    congr 1
    funext p
    obtain ⟨e, s'⟩ := p
    cases e with
    | normal => exact iter_nat hΓ n R c _ K
    | exit _ => rfl
    | ret => rfl
theorem inFin_nat {R : Type} {Γ : Ctx} {fn : Func} {k : Nat} {K : AV → St → Option R} (e : AEx) (s : St) : inFin Γ fn k K e s = (inFin Γ fn k (fun v s' => some (v, s')) e s).bind fun p => K p.1 p.2 := by
  have go : (match resL Γ s fn.results.toList with
    | some [x] => K x { t := s.g.take k, bx := s.bx, live := s.live, g := s.g.drop k }
    | some xs => if xs.all (fun | .tup _ => false | _ => true) then K (.tup xs) { t := s.g.take k, bx := s.bx, live := s.live, g := s.g.drop k } else none
    | none => none) = (match resL Γ s fn.results.toList with
    | some [x] => some (x, ({ t := s.g.take k, bx := s.bx, live := s.live, g := s.g.drop k } : St))
    | some xs => if xs.all (fun | .tup _ => false | _ => true) then some (.tup xs, ({ t := s.g.take k, bx := s.bx, live := s.live, g := s.g.drop k } : St)) else none
    | none => none).bind fun p => K p.1 p.2 := by
    split
    · rfl
    · split <;> rfl
    · rfl
  cases e with
  | exit _ => rfl
  | normal => exact go
  | ret => exact go
theorem all2_of_get {α β : Type} {r : α → β → Prop} : ∀ {xs : List α} {ys : List β}, xs.length = ys.length → (∀ (i : Nat) x y, xs[i]? = some x → ys[i]? = some y → r x y) → all2 r xs ys
  | [], [], _, _ => trivial
  | [], _ :: _, h, _ => by cases h
  | _ :: _, [], h, _ => by cases h
  | x :: xs, y :: ys, h, hr => ⟨hr 0 x y rfl rfl, all2_of_get (by simpa using h) (fun i a b ha hb => hr (i + 1) a b (by simpa using ha) (by simpa using hb))⟩
theorem V2_of_V {q : Vw} {x : AV} {v : Value} (hx : (match x with | .tup _ => false | _ => true) = true) (h : V q x v) : V2 q x v := by
  cases x <;> first | (cases hx; done) | exact h
theorem in_sound {Γ : Ctx} (hΓ : CallsOk Γ) {keep : Hints} {n : Nat} {f : FuncId} {fn : Func} {c : Code} {args : List AV} {s s' : St} {x : AV} (hf : Γ.P.funcs[f]? = some fn) (hc : fn.body = some c)
    (h : aCode Γ keep (iter (R := AV × St) Γ keep n) c { t := args ++ List.replicate (fn.ntmps - args.length) (.raw undef), bx := s.bx, live := s.live, g := s.t ++ s.g } (inFin Γ fn s.t.length fun v s' => some (v, s')) = some (x, s')) : InOk Γ f args s x s' := by
  intro w0 Nin m a w hi vargs hv
  refine calls_of_wp hf hc ?_
  have hlen := all2_len hv
  have hinv : Inv w0 ⟨Nin.N, a.tmps.toList ++ Nin.gv⟩ (fun k => k < s.bx.length) { t := args ++ List.replicate (fn.ntmps - args.length) (.raw undef), bx := s.bx, live := s.live, g := s.t ++ s.g } m
      { tmps := vargs.toArray ++ Array.replicate (fn.ntmps - vargs.toArray.size) undef, defers := [] } w := by
    refine ⟨hi.below, rfl, ?_, ?_, hi.toks, hi.inj, hi.boxes, hi.binj, hi.sep, hi.uD, hi.bD, hi.liveU, ?_⟩
    · simp [hlen]
    · intro i x v hx hu
      have hu' : (vargs ++ List.replicate (fn.ntmps - vargs.length) undef)[i]? = some v := by
        rw [← Array.getElem?_toList] at hu
        simpa using hu
      have hx' : (args ++ List.replicate (fn.ntmps - args.length) (.raw undef))[i]? = some x := hx
      by_cases hil : i < args.length
      · rw [List.getElem?_append_left hil] at hx'
        rw [List.getElem?_append_left (by omega)] at hu'
        obtain ⟨u, e1, e2⟩ := all2_get hv hx'
        rw [hu'] at e1
        cases e1
        exact e2
      · rw [List.getElem?_append_right (by omega), List.getElem?_replicate] at hx'
        rw [List.getElem?_append_right (by omega), List.getElem?_replicate] at hu'
        split at hx'
        · split at hu'
          · cases hx'; cases hu'; rfl
          · cases hu'
        · cases hx'
    · refine all2_append (all2_of_get (by rw [Array.length_toList]; exact hi.tlen.symm) (fun i x y hx hy => hi.tmps i x y hx (by simpa using hy))) hi.ghost
  have hw := aCode_sound hΓ (keep := keep) (iter_ok hΓ n) c _ (inFin Γ fn s.t.length fun v s' => some (v, s')) h _ _ w hinv
  refine wp_mono hw (fun e a' w' hq => ?_)
  obtain ⟨e', s1, m', h1, h2, h3⟩ := hq
  have hgl := all2_len h3.ghost
  have hk : s.t.length = a.tmps.toList.length := by rw [Array.length_toList]; exact hi.tlen.symm
  have hgl' : s1.g.length = a.tmps.toList.length + Nin.gv.length := by rw [hgl]; simp
  have hcaller : ∀ t' : St, t' = { t := s1.g.take s.t.length, bx := s1.bx, live := s1.live, g := s1.g.drop s.t.length } → Inv w0 Nin (fun k => k < t'.bx.length) t' m' a w' := by
    rintro t' rfl
    refine ⟨h3.below, hi.defers, ?_, ?_, h3.toks, h3.inj, h3.boxes, h3.binj, h3.sep, h3.uD, h3.bD, h3.liveU, ?_⟩
    · show a.tmps.size = (s1.g.take s.t.length).length
      rw [List.length_take, hi.tlen]
      rw [Array.length_toList] at hk hgl'
      omega
    · intro i y v hy hu
      have hy' : (s1.g.take s.t.length)[i]? = some y := hy
      have := all2_take s.t.length h3.ghost
      obtain ⟨u, e1, e2⟩ := all2_get this hy'
      rw [hk] at e1
      have e1' : (a.tmps.toList ++ Nin.gv).take a.tmps.toList.length = a.tmps.toList := by simp
      have e3 : a.tmps.toList[i]? = some u := by rw [← e1']; exact e1
      have e4 : a.tmps[i]? = some u := by simpa using e3
      rw [hu] at e4
      cases e4
      exact e2
    · have := all2_drop s.t.length h3.ghost
      have e1' : (a.tmps.toList ++ Nin.gv).drop s.t.length = Nin.gv := by rw [hk]; simp
      show all2 _ (s1.g.drop s.t.length) Nin.gv
      rw [← e1']
      exact this
  have fin : ∀ {e' : AEx}, inFin Γ fn s.t.length (fun v s' => some (v, s')) e' s1 = some (x, s') → a'.defers = [] ∧ ∃ v, (results fn a'.tmps).run Γ.P w' = .ok v w' ∧ ∃ v', Ending.returned v = .returned v' ∧ ∃ m', Inv w0 Nin (fun k => k < s'.bx.length) s' m' a w' ∧ V (vw w0 Nin s' m' w') x v' := by
    intro e' h1
    have h1' : (match resL Γ s1 fn.results.toList with
      | some [x] => some (x, ({ t := s1.g.take s.t.length, bx := s1.bx, live := s1.live, g := s1.g.drop s.t.length } : St))
      | some xs => if xs.all (fun | .tup _ => false | _ => true) then some (.tup xs, ({ t := s1.g.take s.t.length, bx := s1.bx, live := s1.live, g := s1.g.drop s.t.length } : St)) else none
      | none => none) = some (x, s') := by
      cases e' with
      | exit _ => cases h1
      | normal => exact h1
      | ret => exact h1
    refine ⟨h3.defers, ?_⟩
    split at h1'
    · rename_i x0 hx0
      simp only [Option.some.injEq, Prod.mk.injEq] at h1'
      obtain ⟨rfl, he⟩ := h1'
      obtain ⟨vs, hvs1, hvs2⟩ := resL_sound h3 hx0
      cases vs with
      | nil => exact hvs2.elim
      | cons v vs =>
        cases vs with
        | cons _ _ => exact hvs2.2.elim
        | nil =>
          refine ⟨_, run_results fn a'.tmps hvs1, v, rfl, m', hcaller _ he.symm, ?_⟩
          subst he
          exact hvs2.1
    · rename_i xs hne hxs
      split at h1'
      · rename_i hall
        simp only [Option.some.injEq, Prod.mk.injEq] at h1'
        obtain ⟨rfl, he⟩ := h1'
        obtain ⟨vs, hvs1, hvs2⟩ := resL_sound h3 hxs
        have hl := all2_len hvs2
        have h1ne : ¬ vs.length = 1 := by
          intro h1
          rw [h1] at hl
          obtain ⟨x0, hx0⟩ := List.length_eq_one_iff.1 hl
          exact hne x0 hx0
        refine ⟨_, run_results fn a'.tmps hvs1, _, rfl, m', hcaller _ he.symm, ?_⟩
        rw [dif_neg h1ne]
        subst he
        refine ⟨vs, rfl, all2_of_get hl (fun i y v hy hv' => ?_)⟩
        obtain ⟨u, e1, e2⟩ := all2_get hvs2 hy
        rw [hv'] at e1
        cases e1
        exact V2_of_V (List.all_eq_true.1 hall y (List.mem_of_getElem? hy)) e2
      · cases h1'
    · cases h1'
  cases e with
  | normal => exact fin h1
  | ret => exact fin h1
  | exit id => cases e' <;> first | exact h2.elim | skip; cases h1
  | _ => cases e' <;> exact h2.elim
/-- What every function must be, and the contracts of those that are answered for. -/
structure BaseOk (B : Base) : Prop where
  names : ∀ (f : FuncId) (fn : Func), B.P.funcs[f]? = some fn → (fn.name == "runtime.NumGoroutine") = false
  sp : ∀ f g args r, B.sp f = some g → g args = some r → CallOk B.P (B.sh f) f args r
theorem ctxN_ok {B : Base} (hB : BaseOk B) : ∀ n : Nat, CallsOk (ctxN B n)
  | 0 => ⟨fun _ _ _ _ _ => rfl, (fun f args s x s' h => by cases h), fun f args r h => by cases h⟩
  | n + 1 => by
    refine ⟨fun R f args s K => ?_, fun f args s x s' h => ?_, fun f args r h => ?_⟩
    · show inlN B (lvl B n).1 (lvl B n).2 n R f args s K = (inlN B (lvl B n).1 (lvl B n).2 n (AV × St) f args s fun v s' => some (v, s')).bind fun p => K p.1 p.2
      unfold inlN
      split
      · split
        · rename_i c _
          rw [aCode_nat (ctxN_ok hB n) (iter_nat (ctxN_ok hB n) n) c R, aCode_nat (ctxN_ok hB n) (iter_nat (ctxN_ok hB n) n) c (AV × St), Option.bind_assoc]
          congr 1
          funext p
          exact inFin_nat p.1 p.2
        · rfl
      · rfl
    · have h' : inlN B (lvl B n).1 (lvl B n).2 n (AV × St) f args s (fun v s' => some (v, s')) = some (x, s') := h
      unfold inlN at h'
      split at h'
      · rename_i fn hfn
        split at h'
        · rename_i c hc
          exact ⟨⟨fn, hfn, hB.names f fn hfn, by rw [hc]; rfl⟩, in_sound (ctxN_ok hB n) (Γ := ctxN B n) hfn hc h'⟩
        · cases h'
      · cases h'
    · have h' : stepN B (lvl B n).1 (lvl B n).2 n f args = some r := h
      unfold stepN at h'
      split at h'
      · rename_i g hg
        exact hB.sp f g args r hg h'
      · split at h'
        · rename_i fn hfn
          have := body_contract (ctxN_ok hB n) (Γ := ctxN B n) hfn h'
          refine .inl ⟨⟨fn, hfn, hB.names f fn hfn, ?_⟩, this⟩
          unfold aBody at h'
          split at h'
          · rename_i c hc; rw [hc]; rfl
          · cases h'
        · cases h'
theorem callN_contract {B : Base} (hB : BaseOk B) {n : Nat} {f : FuncId} {args : List AV} {r : (B.sh f).den} (h : callN B n f args = some r)
    (hb : ((B.P.funcs[f]?).any fun fn => fn.body.isNone) = false := by kernel_rfl) : Contract B.P (B.sh f) f args r := by
  rcases (ctxN_ok hB n).ok f args r h with ⟨_, hc⟩ | ⟨⟨fn, h1, h2⟩, _⟩
  · exact hc
  · have h1' : B.P.funcs[f]? = some fn := h1
    rw [h1'] at hb
    have h3 : fn.body.isNone = false := hb
    rw [h2] at h3
    cases h3
end Go.Eng
