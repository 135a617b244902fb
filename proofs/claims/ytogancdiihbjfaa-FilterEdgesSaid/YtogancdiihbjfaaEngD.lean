/- ENGINE, part D: the operations that turn no memory, each shown to answer what its model answers. -/
import Derived.Test.YtogancdiihbjfaaEngC
namespace Go.Eng
open Go Go.RowKit
section
variable {R : Type}
def Post (K : St → Option R) (r : R) (w0 : World) (Nin : Env) (D : Nat → Prop) : Act → World → Prop := fun a' w' => ∃ s' m', K s' = some r ∧ Inv w0 Nin D s' m' a' w'
variable {P : Program} {w0 : World} {Nin : Env} {D : Nat → Prop} {s : St} {m : Mp} {a : Act} {w : World} {o : Oper} {K : St → Option R} {r : R} {Q : Exit → Act → World → Prop}
theorem quiet_fin {x : AV} {v : Value} (hrun : (execOp a.eval o).run P w = .ok (.value v) w) (hv : V (vw w0 Nin s m w) x v) (hK : K (s.put o.dst x) = some r) (hi : Inv w0 Nin D s m a w) :
    o.wp P a w (Post K r w0 Nin D) Q := wp_value hrun ⟨_, m, hK, hi.put o.dst hv⟩
end
section
variable {q : Vw}
theorem V_bool {b : Bool} {v : Value} (h : V q (.v .bool b) v) : v = .bool b := (List.cons.inj (show [v] = [.bool b] from h)).1
theorem V_int {k : IntKind} {n : Int} {v : Value} (h : V q (.v (.int k) n) v) : v = .int k n := (List.cons.inj (show [v] = [.int k n] from h)).1
theorem V_str {b : ByteArray} {v : Value} (h : V q (.v .str b) v) : v = .string b := (List.cons.inj (show [v] = [.string b] from h)).1
theorem Rd_le {b hi hi' : Nat} (h : q.Rd b hi) (hle : hi' ≤ hi) : q.Rd b hi' := h.imp id fun ⟨τ, h1, h2, h3⟩ => ⟨τ, h1, h2, Nat.le_trans hle h3⟩
theorem sl_of_rep {e : Ty} {xs : List e.den} {v : Value} (h : rep q.w q.N (.sl e) xs [v]) : q.Sl e xs v := by
  obtain ⟨A, c, inner, he, hl, hr, hc⟩ := h
  refine ⟨A, c, inner, (List.cons.inj he).1, hl, hr, ?_⟩
  rcases hc with hc | ⟨ad, h1, h2, h3⟩
  · exact .inl hc
  · exact .inr ⟨ad, h1, .inl h2, h3⟩
theorem slElems_sound {x : AV} {e : Ty} {xs : List e.den} {v : Value} (h : slElems x = some ⟨e, xs⟩) (hv : V q x v) : q.Sl e xs v := by
  cases x with
  | v t y =>
    cases t <;> simp only [slElems, Option.some.injEq, reduceCtorEq] at h
    cases h
    exact sl_of_rep hv
  | al e' ys => simp only [slElems, Option.some.injEq] at h; cases h; exact hv
  | own τ T e' ys => simp only [slElems, Option.some.injEq] at h; cases h; exact hv.2.1
  | _ => simp [slElems] at h
theorem asSl_sound {x : AV} {e : Ty} {xs : List e.den} {v : Value} (h : x.asSl e = some xs) (hv : V q x v) : q.Sl e xs v := by
  have hcast : ∀ {e' : Ty} {ys : List e'.den}, (Ty.cast (a := .sl e') (b := .sl e) ys : Option (List e.den)) = some xs → q.Sl e' ys v → q.Sl e xs v := by
    intro e' ys hc hs
    unfold Ty.cast at hc
    split at hc
    · rename_i hsame
      have he : e' = e := Ty.same_eq (by simpa [Ty.same] using hsame)
      subst he
      simp only [Option.some.injEq] at hc
      have : ys = xs := hc
      subst this
      exact hs
    · cases hc
  cases x with
  | v t y =>
    cases t <;> simp only [AV.asSl, reduceCtorEq] at h
    exact hcast h (sl_of_rep hv)
  | al e' ys => exact hcast h hv
  | own τ T e' ys => exact hcast h hv.2.1
  | nilS =>
    simp only [AV.asSl, Option.some.injEq] at h
    subst h
    have hv' : v = .slice none 0 0 := hv
    exact ⟨none, 0, [], hv', Nat.le_refl _, rfl, .inl rfl⟩
  | _ => simp [AV.asSl] at h
theorem add_add (ad : Addr) (p j : Nat) : (ad.add p).add j = ad.add (p + j) := by
  unfold Addr.add
  by_cases hp : p = 0
  · subst hp; simp
  · by_cases hj : j = 0
    · subst hj; simp
    · rw [if_neg hp, if_neg hj, if_neg (by omega)]
      simp only [Addr.mk.injEq, and_true, true_and]
      omega
theorem add_block (ad : Addr) (p : Nat) : (ad.add p).block = ad.block := by unfold Addr.add; split <;> rfl
theorem add_off (ad : Addr) (p : Nat) : (ad.add p).off = ad.off + p := by
  unfold Addr.add
  split
  · rename_i h; subst h; rfl
  · rfl
theorem cellsT_len : ∀ (t : Ty) (x : t.den), (cellsT t x).length = t.sz := by
  intro t
  induction t with
  | pair a b iha ihb => intro x; simp only [cellsT, List.length_append, iha, ihb, Ty.sz]
  | _ => intro x; rfl
theorem cellsT_V0 : ∀ (t : Ty) (x : t.den) (cs : List Value), rep q.w q.N t x cs → all2 (V0 q) (cellsT t x) cs := by
  intro t
  induction t with
  | pair a b iha ihb =>
    rintro x cs ⟨c0, c1, rfl, h0, h1⟩
    exact all2_append (iha _ _ h0) (ihb _ _ h1)
  | unit => rintro x cs rfl; trivial
  | sl e ih =>
    rintro x cs h
    have h' := h
    obtain ⟨A, c, inner, rfl, _⟩ := h'
    exact ⟨h, trivial⟩
  | _ => rintro x cs rfl; exact ⟨rfl, trivial⟩
theorem V1_of_V0 {x : AV} {v : Value} (h : V0 q x v) : V1 q x v := by cases x <;> first | exact h.elim | exact h
theorem one_of_V0 {x : AV} {v : Value} (h : V0 q x v) : v.oneCell' = true := by
  cases x <;> first | exact h.elim | exact rep_one _ _ _ h v List.mem_cons_self
end
section
variable {R : Type} {P : Program} {w0 : World} {Nin : Env} {D : Nat → Prop} {s : St} {m : Mp} {a : Act} {w : World} {o : Oper} {K : St → Option R} {r : R} {Q : Exit → Act → World → Prop}
theorem snd_pick {c x y : Operand} (hop : o.op = .pick c x y) (h : (match s.ev c with
    | .v .bool c => bif c then K (s.put o.dst (s.ev x)) else K (s.put o.dst (s.ev y))
    | _ => none) = some r) (hi : Inv w0 Nin D s m a w) : o.wp P a w (Post K r w0 Nin D) Q := by
  have hc := hi.ev c
  split at h
  · rename_i b hb
    rw [hb] at hc
    have hc' := V_bool hc
    cases b with
    | true => exact quiet_fin (v := a.eval x) (by simp [execOp, hop, hc', asBool]) (hi.ev x) h hi
    | false => exact quiet_fin (v := a.eval y) (by simp [execOp, hop, hc', asBool]) (hi.ev y) h hi
  · cases h
theorem snd_load {T : TypeId} {x : Operand} (hop : o.op = .load T x) (h : (match s.ev x with
    | .ptr b off => match s.bx[b]? with
      | some (some (_, cs)) => match partA P T cs off with
        | some x => K (s.put o.dst x)
        | none => none
      | _ => none
    | .ro cs => match partA P T cs 0 with
      | some x => K (s.put o.dst x)
      | none => none
    | .el _ _ e xs i => match partA P T (cellsT e (xs.getD i e.dflt)) 0 with
      | some x => K (s.put o.dst x)
      | none => none
    | _ => none) = some r) (hi : Inv w0 Nin D s m a w) : o.wp P a w (Post K r w0 Nin D) Q := by
  have hx := hi.ev x
  have go : ∀ cs : List AV, (vw w0 Nin s m w).Ro cs (a.eval x) → ∀ y, partA P T cs 0 = some y → K (s.put o.dst y) = some r → o.wp P a w (Post K r w0 Nin D) Q := by
    intro cs hro y hy h
    obtain ⟨ad, he, _, h2⟩ := hro
    obtain ⟨v, hrun, hv⟩ := part_sound (q := vw w0 Nin s m w) hy (ad := ad) (fun j z hj => by
      obtain ⟨u, hu, hv⟩ := h2 j z (by simpa using hj)
      exact ⟨u, hu, V1_of_V0 hv, one_of_V0 hv⟩)
    exact quiet_fin (v := v) (by
      simp only [execOp, hop]
      exact run_v (by simp only [Instr.loadAt, Instr.sureAddr, he, Sem.run_bind, Sem.run_pure, Result.andThen_ok]; exact hrun)) hv h hi
  split at h
  · rename_i b off hb
    rw [hb] at hx
    split at h
    · rename_i T' cs hbx
      split at h
      · rename_i y hy
        obtain ⟨he, _⟩ := (show _ ∧ _ from hx)
        obtain ⟨_, vs, hh, h2, h1⟩ := hi.boxes b T' cs hbx
        obtain ⟨v, hrun, hv⟩ := part_sound (q := vw w0 Nin s m w) hy (ad := ⟨m.B b, off, none⟩) (fun j z hj => by
          obtain ⟨u, hu, hv⟩ := all2_get h2 hj
          refine ⟨u, ?_, hv, h1 u (List.mem_of_getElem? hu)⟩
          rw [show (⟨m.B b, off, none⟩ : Addr).add j = ⟨m.B b, off + j, none⟩ by unfold Addr.add; split <;> simp_all]
          show w.cell? _ = _
          simp [World.cell?, hh, hu])
        exact quiet_fin (v := v) (by
          have he' : a.eval x = .pointer (some ⟨m.B b, off, none⟩) := he
          simp only [execOp, hop]
          exact run_v (by simp only [Instr.loadAt, Instr.sureAddr, he', Sem.run_bind, Sem.run_pure, Result.andThen_ok]; exact hrun)) hv h hi
      · cases h
    · cases h
  · rename_i cs hb
    rw [hb] at hx
    split at h
    · rename_i y hy
      exact go cs hx y hy h
    · cases h
  · rename_i id T' e xs i hb
    rw [hb] at hx
    split at h
    · rename_i y hy
      exact go _ hx.2.1 y hy h
    · cases h
  · cases h
theorem snd_nilCheck {x : Operand} (hop : o.op = .nilCheck x) (h : (match s.ev x with
    | .ptr b off => K (s.put o.dst (.ptr b off))
    | .ro cs => K (s.put o.dst (.ro cs))
    | .el id T e xs i => K (s.put o.dst (.el id T e xs i))
    | _ => none) = some r) (hi : Inv w0 Nin D s m a w) : o.wp P a w (Post K r w0 Nin D) Q := by
  have hx := hi.ev x
  split at h
  · rename_i b off hb
    rw [hb] at hx
    have he : a.eval x = .pointer (some ⟨m.B b, off, none⟩) := hx.1
    exact quiet_fin (v := a.eval x) (by simp [execOp, hop, he]) hx h hi
  · rename_i cs hb
    rw [hb] at hx
    obtain ⟨ad, he, _⟩ := (show ∃ ad, _ ∧ _ ∧ _ from hx)
    exact quiet_fin (v := a.eval x) (by simp [execOp, hop, he]) hx h hi
  · rename_i id T e xs i hb
    rw [hb] at hx
    obtain ⟨ad, he, _⟩ := (show ∃ ad, _ ∧ _ ∧ _ from hx.2.1)
    exact quiet_fin (v := a.eval x) (by simp [execOp, hop, he]) hx h hi
  · cases h
theorem run_fieldAt {S : TypeId} {f k : Nat} {ft : TypeId} (hf : fieldOf P S f = some (k, ft)) (ad : Addr) (w : World) :
    (Instr.fieldAt S (.pointer (some ad)) f).run P w = .ok (.pointer (some (ad.add k))) w := by
  unfold fieldOf at hf
  split at hf
  · rename_i fs hu
    split at hf
    · rename_i fd hfd
      split at hf
      · rename_i hs
        simp only [Option.some.injEq, Prod.mk.injEq] at hf
        obtain ⟨rfl, rfl⟩ := hf
        have h0 : ¬ szOf P fd.type = 0 := by
          intro h; rw [h] at hs; cases hs
        simp only [Instr.fieldAt, Sem.run_bind, run_underlying hu, Result.andThen_ok, hfd, Instr.sureAddr, Sem.run_pure, fieldPlace, run_sizeOf hs, if_neg h0]
      · cases hf
    · cases hf
  · cases hf
theorem snd_fieldAddr {S : TypeId} {x : Operand} {f : Nat} (hop : o.op = .fieldAddr S x f) (h : (match s.ev x, fieldOf P S f with
    | .ptr b off, some (k, _) => K (s.put o.dst (.ptr b (off + k)))
    | .ro cs, some (k, _) => K (s.put o.dst (.ro (cs.drop k)))
    | .el _ _ e xs i, some (k, _) => K (s.put o.dst (.ro ((cellsT e (xs.getD i e.dflt)).drop k)))
    | _, _ => none) = some r) (hi : Inv w0 Nin D s m a w) : o.wp P a w (Post K r w0 Nin D) Q := by
  have hx := hi.ev x
  have go : ∀ cs : List AV, (vw w0 Nin s m w).Ro cs (a.eval x) → ∀ k ft, fieldOf P S f = some (k, ft) → K (s.put o.dst (.ro (cs.drop k))) = some r → o.wp P a w (Post K r w0 Nin D) Q := by
    intro cs hro k ft hf h
    obtain ⟨ad, he, h1, h2⟩ := hro
    refine quiet_fin (x := .ro (cs.drop k)) (v := .pointer (some (ad.add k))) ?_ ⟨_, rfl, ?_, ?_⟩ h hi
    · simp only [execOp, hop]
      exact run_v (by rw [he, run_fieldAt hf])
    · by_cases hk : cs.length ≤ k
      · exact .inl (List.drop_eq_nil_of_le hk)
      · rcases h1 with h1 | h1
        · subst h1; exact .inl (by simp)
        · refine .inr ?_
          rw [add_block, add_off, List.length_drop]
          exact Rd_le h1 (by omega)
    · intro j y hj
      rw [List.getElem?_drop] at hj
      obtain ⟨u, hu, hv⟩ := h2 _ _ hj
      exact ⟨u, by rw [add_add]; exact hu, hv⟩
  split at h
  · rename_i b off k ft hb hf
    rw [hb] at hx
    have he : a.eval x = .pointer (some ⟨m.B b, off, none⟩) := hx.1
    refine quiet_fin (x := .ptr b (off + k)) (v := .pointer (some ⟨m.B b, off + k, none⟩)) ?_ ⟨rfl, hx.2⟩ h hi
    simp only [execOp, hop]
    refine run_v ?_
    rw [he, run_fieldAt hf]
    congr 3
    unfold Addr.add; split <;> simp_all
  · rename_i cs k ft hb hf
    rw [hb] at hx
    exact go cs hx k ft hf h
  · rename_i id T e xs i k ft hb hf
    rw [hb] at hx
    exact go _ hx.2.1 k ft hf h
  · cases h
theorem snd_field {S : TypeId} {x : Operand} {f : Nat} (hop : o.op = .field S x f) (h : (match s.ev x, fieldOf P S f with
    | .agg cs, some (k, ft) => match partA P ft cs k with
      | some x => K (s.put o.dst x)
      | none => none
    | _, _ => none) = some r) (hi : Inv w0 Nin D s m a w) : o.wp P a w (Post K r w0 Nin D) Q := by
  have hx := hi.ev x
  split at h
  · rename_i cs k ft hb hf
    split at h
    · rename_i y hy
      rw [hb] at hx
      obtain ⟨vs, he, h2, h1⟩ := (show ∃ vs, _ ∧ _ ∧ _ from hx)
      obtain ⟨v, hrun, hv⟩ := part_value hy h2 h1 w
      refine quiet_fin (v := v) ?_ hv h hi
      unfold fieldOf at hf
      split at hf
      · rename_i fs hu
        split at hf
        · rename_i fd hfd
          split at hf
          · simp only [Option.some.injEq, Prod.mk.injEq] at hf
            obtain ⟨rfl, rfl⟩ := hf
            simp only [execOp, hop]
            refine run_v ?_
            simp only [Instr.field, Sem.run_bind, run_underlying hu, Result.andThen_ok, hfd, he, asAgg, Sem.run_pure, hrun]
          · cases hf
        · cases hf
      · cases hf
    · cases h
  · cases h
theorem snd_extract {x : Operand} {i : Nat} (hop : o.op = .extract x i) (h : (match s.ev x with
    | .tup vs => match vs[i]? with
      | some y => K (s.put o.dst y)
      | none => none
    | _ => none) = some r) (hi : Inv w0 Nin D s m a w) : o.wp P a w (Post K r w0 Nin D) Q := by
  have hx := hi.ev x
  split at h
  · rename_i vs hb
    rw [hb] at hx
    split at h
    · rename_i y hy
      obtain ⟨us, he, h2⟩ := (show ∃ us, _ ∧ _ from hx)
      obtain ⟨u, hu, hv⟩ := all2_get h2 hy
      refine quiet_fin (v := u) ?_ ?_ h hi
      · simp only [execOp, hop]
        refine run_v ?_
        simp only [he, Instr.extract, List.getElem?_toArray, hu, Sem.run_pure]
      · cases y with
        | tup _ => exact hv.elim
        | _ => exact hv
    · cases h
  · cases h
/-- An element's place in what is read. -/
theorem ro_of_sl {q : Vw} {e : Ty} {xs : List e.den} {A : Option Addr} {inner : List Value} (hr : repsOf (rep q.w q.N e) xs inner) (hc : CellsAt q.w q.Rd A inner) (hpos : 0 < e.sz) {i : Nat} (hlt : i < xs.length) :
    ∃ ad, A = some ad ∧ q.Ro (cellsT e (xs.getD i e.dflt)) (.pointer (some (ad.add (i * e.sz)))) := by
  have hget : xs[i]? = some xs[i] := List.getElem?_eq_getElem hlt
  obtain ⟨ci, hci, hcell⟩ := repsOf_get (rep_len e) xs inner _ _ hr hget
  have hilen := reps_len xs inner hr
  have hge : (i + 1) * e.sz ≤ inner.length := by rw [hilen]; exact Nat.mul_le_mul_right _ hlt
  rcases hc with hc | ⟨ad, hA, hq, hcc⟩
  · subst hc
    simp only [List.length_nil] at hge
    exact absurd (Nat.mul_pos (Nat.succ_pos i) hpos) (by have := hge; exact Nat.not_lt.2 this)
  · refine ⟨ad, hA, _, rfl, .inr ?_, ?_⟩
    · rw [add_block, add_off, cellsT_len]
      exact Rd_le hq (by rw [Nat.succ_mul] at hge; omega)
    · intro j y hy
      have hd : xs.getD i e.dflt = xs[i] := by rw [List.getD_eq_getElem?_getD, hget]; rfl
      rw [hd] at hy
      obtain ⟨u, hu', hv⟩ := all2_get (cellsT_V0 (q := q) e _ _ hci) hy
      exact ⟨u, by rw [add_add]; exact hcc _ _ (hcell _ _ hu'), hv⟩
/-- .. in a slice of the frame's own. -/
theorem ro_of_own {q : Vw} {τ : Nat} {T : TypeId} {e : Ty} {xs : List e.den} {sl : Value} (ho : q.Own τ T e xs sl) (hl : q.live τ) {g : Nat} (hG : q.G τ = some g) {i : Nat} (hlt : i < xs.length) :
    q.Ro (cellsT e (xs.getD i e.dflt)) (.pointer (some ⟨g, i * e.sz, none⟩)) := by
  rcases Nat.eq_zero_or_pos e.sz with h0 | hpos
  · have : cellsT e (xs.getD i e.dflt) = [] := List.eq_nil_of_length_eq_zero (by rw [cellsT_len, h0])
    rw [this]
    exact ⟨_, rfl, .inl rfl, fun j x hj => by simp at hj⟩
  obtain ⟨inner, hown, hb, hr, hE⟩ := ho
  rcases hown.2 with ⟨rfl, hn⟩ | ⟨g', cap, cur, rfl, hbg, hg, hnc, hcm, hcs, htake⟩
  · exact absurd hlt (by rw [hn]; exact Nat.not_lt_zero _)
  · have hgg : g' = g := by rw [hG] at hb; simpa [Value.ownBlock] using hb
    subst hgg
    obtain ⟨ad, hA, hro⟩ := ro_of_sl (q := q) (A := some ⟨g', 0, none⟩) hr (.inr ⟨_, rfl, .inr ⟨τ, hl, hG, by show 0 + inner.length ≤ q.E τ; rw [hE]; omega⟩, hown.cells (g := g') rfl⟩) hpos hlt
    cases hA
    have : (⟨g', 0, none⟩ : Addr).add (i * e.sz) = ⟨g', i * e.sz, none⟩ := by unfold Addr.add; split <;> simp_all
    rw [this] at hro
    exact hro
theorem snd_indexAddr {t : TypeId} {x ix : Operand} (hop : o.op = .indexAddr t x ix) (h : indexA P t (s.ev x) (s.ev ix) s o.dst K = some r) (hi : Inv w0 Nin D s m a w) :
    o.wp P a w (Post K r w0 Nin D) Q := by
  have hx := hi.ev x
  have hj := hi.ev ix
  unfold indexA at h
  split at h
  · rename_i et e xs k i hu hsl hix
    split at h
    · rename_i hok
      split at h
      · rename_i hin
        obtain ⟨A, c, inner, he, hl, hr, hc⟩ := slElems_sound hsl hx
        rw [hix] at hj
        have hj' := V_int hj
        unfold elemOk at hok
        split at hok
        · rename_i inf hinf
          rw [Bool.and_eq_true, Bool.and_eq_true, Bool.and_eq_true] at hok
          replace hok := hok.1
          have hsz : inf.size = e.sz := Nat.eq_of_beq_eq_true hok.1.1
          have hpos : 0 < e.sz := by rw [← hsz]; exact Nat.le_of_ble_eq_true hok.1.2
          have hlt : Int.toNat i < xs.length := (Int.toNat_lt hin.1).2 hin.2
          obtain ⟨ad, hA, hro⟩ := ro_of_sl hr hc hpos hlt
          have hV : V (vw w0 Nin s m w) (atA (s.ev x) e xs i.toNat) (.pointer (some (ad.add (i.toNat * e.sz)))) := by
            unfold atA
            split
            · rename_i id T e' ys hev
              rw [hev] at hsl hx
              simp only [slElems, Option.some.injEq] at hsl
              cases hsl
              obtain ⟨h0, _, h2⟩ := (show _ ∧ _ ∧ _ from hx)
              refine ⟨h0, hro, fun hlv => ⟨hlt, ?_⟩⟩
              have hO := h2 hlv
              obtain ⟨inner', hown, hb, _⟩ := hO
              rcases hown.2 with ⟨_, hn⟩ | ⟨g', cap, cur, hsl', _⟩
              · exact absurd hlt (by rw [hn]; exact Nat.not_lt_zero _)
              · have hO := h2 hlv
                rw [he] at hsl'
                simp only [Value.slice.injEq] at hsl'
                have hA' : A = some ⟨g', 0, none⟩ := hsl'.1
                rw [hA'] at hA
                cases hA
                refine ⟨g', a.eval x, ?_, ?_, hO⟩
                · rw [← hb, he, hA']; rfl
                · congr 2
                  unfold Addr.add; split <;> simp_all
            · exact hro
          refine quiet_fin (v := .pointer (some (ad.add (i.toNat * e.sz)))) ?_ hV h hi
          simp only [execOp, hop]
          refine run_v ?_
          rw [he, hj', hA]
          have hin' : 0 ≤ i ∧ i < ((List.length xs : Nat) : Int) := hin
          simp only [Instr.indexAt, asIntOf, Sem.run_bind, Sem.run_pure, Result.andThen_ok, run_underlying hu]
          simp [hin', sizeOf, typeInfo, hinf, hsz]
        · cases hok
      · cases h
    · cases h
  · cases h
end
end Go.Eng
