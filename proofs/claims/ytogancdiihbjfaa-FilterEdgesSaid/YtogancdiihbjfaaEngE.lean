/- ENGINE, part E: strings, slices cut, numbers, conversions, lengths. -/
import Derived.Test.YtogancdiihbjfaaEngD
import Derived.Laws.Small
namespace Go.Eng
open Go Go.RowKit
section
variable {R : Type} {P : Program} {w0 : World} {Nin : Env} {D : Nat → Prop} {s : St} {m : Mp} {a : Act} {w : World} {o : Oper} {K : St → Option R} {r : R} {Q : Exit → Act → World → Prop}
theorem byteAt_eq (b : ByteArray) (i : Int) (h0 : 0 ≤ i) (h1 : i < (b.size : Int)) : b[i.toNat]? = some (b[i.toNat]'((Int.toNat_lt h0).2 h1)) ∧ byteAt b i = ((b[i.toNat]'((Int.toNat_lt h0).2 h1)).toNat : Int) := by
  have h := (Int.toNat_lt h0).2 h1
  refine ⟨getElem?_pos b i.toNat h, ?_⟩
  unfold byteAt
  rw [dif_pos h]
theorem snd_index {t : TypeId} {x ix : Operand} (hop : o.op = .index t x ix) (h : (match P.underlying t, s.ev x, s.ev ix with
    | some .string, .v .str b, .v (.int _) i => if 0 ≤ (i : Int) ∧ i < (b.size : Int) then K (s.put o.dst (.v (.int .u8) (byteAt b i))) else none
    | _, _, _ => none) = some r) (hi : Inv w0 Nin D s m a w) : o.wp P a w (Post K r w0 Nin D) Q := by
  have hx := hi.ev x
  have hj := hi.ev ix
  split at h
  · rename_i b k i hu hb hix
    rw [hb] at hx
    rw [hix] at hj
    have hx' := V_str hx
    have hj' := V_int hj
    split at h
    · rename_i hin
      obtain ⟨e1, e2⟩ := byteAt_eq b i hin.1 hin.2
      refine quiet_fin (x := .v (.int .u8) (byteAt b i)) (v := .int .u8 (byteAt b i)) ?_ rfl h hi
      simp only [execOp, hop]
      refine run_v ?_
      rw [hx', hj']
      have h0 : (0 : Int) ≤ i := hin.1
      simp only [Instr.index, asIntOf, Sem.run_bind, Sem.run_pure, Result.andThen_ok, run_underlying hu]
      rw [if_pos h0, e1, e2]
      rfl
    · cases h
  · cases h
def OptRel : Option Int → Option Value → Prop
  | none, none => True
  | some n, some v => ∃ k, v = .int k n
  | _, _ => False
theorem optInt_sound {lo : Option Operand} {l : Option Int} (h : optInt (lo.map s.ev) = some l) (hi : Inv w0 Nin D s m a w) : OptRel l (lo.map a.eval) := by
  cases lo with
  | none => simp only [Option.map_none, optInt, Option.some.injEq] at h; subst h; trivial
  | some x =>
    have hx := hi.ev x
    simp only [Option.map_some, optInt] at h
    split at h <;> first | cases h | skip
    · rename_i heq; cases heq
    · rename_i k n heq
      simp only [Option.some.injEq] at heq
      rw [heq] at hx
      exact ⟨_, V_int hx⟩
theorem cut_sound {n : Nat} {lo hi : Option Int} {lv hv : Option Value} {Kc : Nat → Nat → Option R} (h : cutA n lo hi Kc = some r) (hl : OptRel lo lv) (hh : OptRel hi hv) :
    ∃ L H, Kc L H = some r ∧ L ≤ H ∧ H ≤ n ∧ ∀ (isS : Bool) (cap : Nat) (w : World), n ≤ cap → (isS = false → cap = n) → (Instr.sliceBounds isS n cap lv hv none).run P w = .ok (L, H, cap) w := by
  cases lo with
  | none =>
    cases lv with
    | some _ => exact hl.elim
    | none =>
      cases hi with
      | none =>
        cases hv with
        | some _ => exact hh.elim
        | none => exact ⟨0, n, h, Nat.zero_le _, Nat.le_refl _, fun isS cap w _ _ => by simp [Instr.sliceBounds, Sem.run_bind]⟩
      | some hi =>
        cases hv with
        | none => exact hh.elim
        | some hv =>
          obtain ⟨k, rfl⟩ := hh
          simp only [cutA] at h
          split at h
          · rename_i hc
            refine ⟨0, hi.toNat, h, Nat.zero_le _, by omega, fun isS cap w hcap _ => ?_⟩
            have e := fun code => run_sliceBound (P := P) (w := w) k hi cap code hc.1 (by omega)
            simp [Instr.sliceBounds, Sem.run_bind, e]
          · cases h
  | some lo =>
    cases lv with
    | none => exact hl.elim
    | some lv =>
      obtain ⟨kl, rfl⟩ := hl
      cases hi with
      | none =>
        cases hv with
        | some _ => exact hh.elim
        | none =>
          simp only [cutA] at h
          split at h
          · rename_i hc
            refine ⟨lo.toNat, n, h, by omega, Nat.le_refl _, fun isS cap w hcap _ => ?_⟩
            have e := fun code => run_sliceBound (P := P) (w := w) kl lo n code hc.1 (by omega)
            simp [Instr.sliceBounds, Sem.run_bind, e]
          · cases h
      | some hi =>
        cases hv with
        | none => exact hh.elim
        | some hv =>
          obtain ⟨k, rfl⟩ := hh
          simp only [cutA] at h
          split at h
          · rename_i hc
            refine ⟨lo.toNat, hi.toNat, h, by omega, by omega, fun isS cap w hcap _ => ?_⟩
            have e := fun code => run_sliceBound (P := P) (w := w) k hi cap code (by omega) (by omega)
            have e2 := fun code => run_sliceBound (P := P) (w := w) kl lo hi.toNat code hc.1 (by omega)
            simp [Instr.sliceBounds, Sem.run_bind, e, e2]
          · cases h
/-- A cut of a slice that is read. -/
theorem sl_cut {q : Vw} {e : Ty} {xs : List e.den} {A : Option Addr} {c L H : Nat} {inner : List Value} {Q : Nat → Nat → Prop} (hQ : ∀ b hi hi', Q b hi → hi' ≤ hi → Q b hi')
    (hl : xs.length ≤ c) (hr : repsOf (rep q.w q.N e) xs inner) (hc : CellsAt q.w Q A inner) (hLH : L ≤ H) (hH : H ≤ xs.length) :
    ∃ inner', repsOf (rep q.w q.N e) ((xs.take H).drop L) inner' ∧ CellsAt q.w Q (if c = L then A else A.map (·.add (L * e.sz))) inner' := by
  refine ⟨(inner.take (H * e.sz)).drop (L * e.sz), repsOf_drop (rep_len e) _ _ _ (repsOf_take (rep_len e) _ _ _ hr), ?_⟩
  have hlen := reps_len xs inner hr
  by_cases hn : (inner.take (H * e.sz)).drop (L * e.sz) = []
  · exact .inl hn
  rcases hc with hc | ⟨ad, hA, hq, hcell⟩
  · subst hc; exact .inl (by simp)
  · refine .inr ?_
    have hne : ¬ c = L := by
      intro he
      have : H = L := by omega
      subst this
      apply hn
      rw [List.drop_eq_nil_iff, List.length_take]
      omega
    rw [if_neg hne, hA]
    refine ⟨ad.add (L * e.sz), rfl, ?_, fun j u hj => ?_⟩
    · rw [add_block, add_off]
      refine hQ _ _ _ hq ?_
      rw [List.length_drop, List.length_take]
      have h1 : L * e.sz ≤ H * e.sz := Nat.mul_le_mul_right _ hLH
      have h2 : H * e.sz ≤ inner.length := by rw [hlen]; exact Nat.mul_le_mul_right _ hH
      rw [Nat.min_eq_left h2]
      omega
    · rw [add_add]
      rw [List.getElem?_drop, List.getElem?_take] at hj
      split at hj
      · exact hcell _ _ hj
      · cases hj
theorem cut_len {α : Type} (xs : List α) {L H : Nat} (hH : H ≤ xs.length) : ((xs.take H).drop L).length = H - L := by
  rw [List.length_drop, List.length_take]; omega
theorem snd_sliceStr {t : TypeId} {x : Operand} {lo hi : Option Operand} {l h' : Option Int} {b : ByteArray} (hop : o.op = .slice t x lo hi none) (hu : P.underlying t = some .string) (hb : s.ev x = .v .str b)
    (hl : optInt (lo.map s.ev) = some l) (hh : optInt (hi.map s.ev) = some h') (h : cutA b.size l h' (fun l h => K (s.put o.dst (.v .str (b.extract l h)))) = some r) (hI : Inv w0 Nin D s m a w) :
    o.wp P a w (Post K r w0 Nin D) Q := by
  have hx := hI.ev x
  rw [hb] at hx
  have hx' := V_str hx
  obtain ⟨L, H, hK, h1, h2, hrun⟩ := cut_sound (P := P) h (optInt_sound hl hI) (optInt_sound hh hI)
  refine quiet_fin (x := .v .str (b.extract L H)) (v := .string (b.extract L H)) ?_ rfl hK hI
  simp only [execOp, hop]
  refine run_v ?_
  rw [run_sliceAt_string (h := hu), hx']
  simp only [Instr.slice, Sem.run_bind, run_underlying hu, Result.andThen_ok, Option.map_none, Option.isSome_none, Bool.false_eq_true, if_false, hrun false b.size w (Nat.le_refl _) (fun _ => rfl), Sem.run_pure]
theorem snd_sliceSl {t et : TypeId} {x : Operand} {lo hi : Option Operand} {l h' : Option Int} (hop : o.op = .slice t x lo hi none) (hu : P.underlying t = some (.slice et))
    {e : Ty} {ys : List e.den} (hsl : slElems (s.ev x) = some ⟨e, ys⟩) (hok : elemOk P et e = true)
    (hl : optInt (lo.map s.ev) = some l) (hh : optInt (hi.map s.ev) = some h') (h : sliceA (s.ev x) l h' s o.dst K = some r) (hI : Inv w0 Nin D s m a w) :
    o.wp P a w (Post K r w0 Nin D) Q := by
  have hx := hI.ev x
  obtain ⟨inf, hinf, hsz⟩ : ∃ i, P.info? et = some i ∧ i.size = e.sz := by
    unfold elemOk at hok
    split at hok
    · rename_i inf hinf
      rw [Bool.and_eq_true, Bool.and_eq_true, Bool.and_eq_true] at hok
      exact ⟨inf, hinf, Nat.eq_of_beq_eq_true hok.1.1.1⟩
    · cases hok
  have run : ∀ (A : Option Addr) (n c L H : Nat), a.eval x = .slice A n c → (∀ (isS : Bool) (cap : Nat) (w : World), n ≤ cap → (isS = false → cap = n) → (Instr.sliceBounds isS n cap (lo.map a.eval) (hi.map a.eval) none).run P w = .ok (L, H, cap) w) → n ≤ c →
      (execOp a.eval o).run P w = .ok (.value (.slice (if c = L then A else A.map (·.add (L * e.sz))) (H - L) (c - L))) w := by
    intro A n c L H he hb hn
    simp only [execOp, hop]
    refine run_v ?_
    have hu' : P.underlying t = some (.slice (P.elem t)) := by rw [hu]; simp [Program.elem, hu]
    rw [run_sliceAt_slice (h := hu'), he]
    simp only [Instr.slice, Sem.run_bind, run_underlying hu, Result.andThen_ok, Option.map_none, hb true c w hn (fun h => by cases h), sizeOf, typeInfo]
    simp [hinf, hsz]
  have done_ : ∀ (e' : Ty) (xs : List e'.den) (e1 : e' = e), (vw w0 Nin s m w).Sl e' xs (a.eval x) → cutA xs.length l h' (fun l h => K (s.put o.dst (.al e' ((xs.take h).drop l)))) = some r → o.wp P a w (Post K r w0 Nin D) Q := by
    rintro e' xs rfl ⟨A, c, inner, he, hlc, hr, hc⟩ hcut
    obtain ⟨L, H, hK, h1, h2, hb⟩ := cut_sound (P := P) hcut (optInt_sound hl hI) (optInt_sound hh hI)
    obtain ⟨inner', hr', hc'⟩ := sl_cut (q := vw w0 Nin s m w) (Q := (vw w0 Nin s m w).Rd) (fun b hi hi' h hle => Rd_le h hle) hlc hr hc h1 h2
    refine quiet_fin (x := .al e' ((xs.take H).drop L)) (run A _ c L H he hb hlc) ⟨_, c - L, inner', ?_, ?_, hr', hc'⟩ hK hI
    · rw [cut_len xs h2]
    · rw [cut_len xs h2]; omega
  unfold sliceA at h
  split at h
  · rename_i b hb; rw [hb] at hsl; simp [slElems] at hsl
  · rename_i e' xs hb
    rw [hb] at hsl hx
    simp only [slElems, Option.some.injEq] at hsl
    cases hsl
    obtain ⟨A, c, inner, he, hlc, hr, hc⟩ := (show rep _ _ _ _ _ from hx)
    have he' := (List.cons.inj he).1
    obtain ⟨L, H, hK, h1, h2, hb'⟩ := cut_sound (P := P) h (optInt_sound hl hI) (optInt_sound hh hI)
    obtain ⟨inner', hr', hc'⟩ := sl_cut (q := vw w0 Nin s m w) (Q := fun b _ => (vw w0 Nin s m w).N b) (fun b hi hi' h _ => h) hlc hr hc h1 h2
    refine quiet_fin (x := .v (.sl e) ((List.take H ys).drop L)) (run A _ c L H he' hb' hlc) ⟨_, c - L, inner', ?_, ?_, hr', hc'⟩ hK hI
    · rw [cut_len ys h2]
    · rw [cut_len ys h2]; omega
  · rename_i e' xs hb
    rw [hb] at hsl hx
    simp only [slElems, Option.some.injEq] at hsl
    cases hsl
    exact done_ _ ys rfl hx h
  · rename_i τ T e' xs hb
    rw [hb] at hsl hx
    simp only [slElems, Option.some.injEq] at hsl
    cases hsl
    exact done_ _ ys rfl hx.2.1 h
  · cases h
theorem snd_sliceNil {t et : TypeId} {x : Operand} {lo hi : Option Operand} {l h' : Option Int} (hop : o.op = .slice t x lo hi none) (hu : P.underlying t = some (.slice et)) (hx : s.ev x = .nilS) (hsz : Nat.blt 0 (szOf P et) = true)
    (hl : optInt (lo.map s.ev) = some l) (hh : optInt (hi.map s.ev) = some h') (h : cutA 0 l h' (fun _ _ => K (s.put o.dst .nilS)) = some r) (hI : Inv w0 Nin D s m a w) :
    o.wp P a w (Post K r w0 Nin D) Q := by
  have hv := hI.ev x
  rw [hx] at hv
  have hv' : a.eval x = .slice none 0 0 := hv
  obtain ⟨L, H, hK, h1, h2, hb⟩ := cut_sound (P := P) h (optInt_sound hl hI) (optInt_sound hh hI)
  have hL : L = 0 := by omega
  have hH : H = 0 := by omega
  subst hL hH
  refine quiet_fin (x := .nilS) (v := .slice none 0 0) ?_ rfl hK hI
  simp only [execOp, hop]
  refine run_v ?_
  have hu' : P.underlying t = some (.slice (P.elem t)) := by rw [hu]; simp [Program.elem, hu]
  have hs := run_sizeOf (P := P) (t := et) hsz
  rw [run_sliceAt_slice (h := hu'), hv']
  simp only [Instr.slice, Sem.run_bind, run_underlying hu, Result.andThen_ok, Option.map_none, hb true 0 w (Nat.le_refl _) (fun h => by cases h), hs]
  simp
/-! ### numbers -/
theorem snd_fin1 {c : Sem Value} (h : fin1 s o.dst (evS P c) K = some r) (hrun : ∀ v, c.run P w = .ok v w → (execOp a.eval o).run P w = .ok (.value v) w) (hi : Inv w0 Nin D s m a w) :
    o.wp P a w (Post K r w0 Nin D) Q := by
  unfold fin1 at h
  split at h
  · rename_i v hv
    split at h
    · rename_i x hx
      exact quiet_fin (hrun v (evS_run hv w)) (V_ofV1 hx) h hi
    · cases h
  · cases h
theorem eqGuard_scalar {op : BinOp} {t : TypeId} {x y : Operand} {u v : Value} (h : scalarV u = true) : eqGuard op t x y u v = pure () := by
  cases u <;> first | (cases h; done) | (cases op <;> rfl)
theorem snd_binPlain {op : BinOp} {t yt : TypeId} {x y : Operand} (hop : o.op = .binOp op t x y yt) (h : binPlain P op t (s.ev x) (s.ev y) s o.dst K = some r) (hi : Inv w0 Nin D s m a w) :
    o.wp P a w (Post K r w0 Nin D) Q := by
  have hx := hi.ev x
  have hy := hi.ev y
  unfold binPlain at h
  split at h
  · rename_i u v hu hv
    split at h
    · rename_i hs
      rw [Bool.and_eq_true] at hs
      have eu := cellV_eq hu hx
      have ev := cellV_eq hv hy
      refine snd_fin1 h (fun z hz => ?_) hi
      simp only [execOp, hop]
      refine run_v ?_
      rw [eu, ev, eqGuard_scalar hs.1]
      simpa [Sem.run_bind] using hz
    · cases h
  · cases h
theorem fkind_eq {k j : FloatKind} (h : (Ty.fkNo k == Ty.fkNo j) = true) : k = j := Ty.fkNo_inj h
theorem V_flt {q : Vw} {k : FloatKind} {n : Nat} {v : Value} (h : V q (.v (.flt k) n) v) : v = .float k n := (List.cons.inj (show [v] = [.float k n] from h)).1
theorem obind_some {α β : Type} {x : Option α} {f : α → Option β} {b : β} (h : x.bind f = some b) : ∃ y, x = some y ∧ f y = some b := by
  cases x with
  | none => cases h
  | some y => exact ⟨y, rfl, h⟩
theorem snd_flt {op : BinOp} {t yt : TypeId} {x y : Operand} (hop : o.op = .binOp op t x y yt) {k j : FloatKind} {a' b' : Nat} (ha : s.ev x = .v (.flt k) a') (hb : s.ev y = .v (.flt j) b') {res : Option Nat}
    (hres : ∀ n, res = some n → k = j → (binOp op t (.float k a') (.float j b')).run P w = .ok (.float k n) w)
    (h : (if Ty.fkNo k == Ty.fkNo j then res.bind fun r => K (s.put o.dst (.v (.flt k) r)) else none) = some r) (hi : Inv w0 Nin D s m a w) : o.wp P a w (Post K r w0 Nin D) Q := by
  have hx := hi.ev x
  have hy := hi.ev y
  rw [ha] at hx; rw [hb] at hy
  split at h
  · rename_i hk
    obtain ⟨n, hn, hK⟩ := obind_some h
    refine quiet_fin (x := .v (.flt k) n) (v := .float k n) ?_ rfl hK hi
    simp only [execOp, hop]
    refine run_v ?_
    rw [V_flt hx, V_flt hy, eqGuard_scalar rfl]
    simpa [Sem.run_bind] using hres n hn (fkind_eq hk)
  · cases h
theorem kind_eq {k j : IntKind} (h : (Ty.kindNo k == Ty.kindNo j) = true) : k = j := Ty.kindNo_inj h
theorem snd_bin {op : BinOp} {t yt : TypeId} {x y : Operand} (hop : o.op = .binOp op t x y yt) (h : binA P op t (s.ev x) (s.ev y) s o.dst K = some r)
    (hagg : ∀ neg xs ys, s.ev x = .agg xs → s.ev y = .agg ys → (op = if neg then .neq else .eql) → aggEq P neg t xs ys s o.dst K = some r → o.wp P a w (Post K r w0 Nin D) Q)
    (hi : Inv w0 Nin D s m a w) : o.wp P a w (Post K r w0 Nin D) Q := by
  have hx := hi.ev x
  have hy := hi.ev y
  unfold binA at h
  split at h
  · rename_i k a' j b' ha hb
    exact snd_flt hop ha hb (fun n hn hk => by subst hk; simp [binOp, Op.floatArith, hn, Sem.run_bind]) h hi
  · rename_i k a' j b' ha hb
    exact snd_flt hop ha hb (fun n hn hk => by subst hk; simp [binOp, Op.floatArith, hn, Sem.run_bind]) h hi
  · rename_i k a' j b' ha hb
    exact snd_flt hop ha hb (fun n hn hk => by subst hk; simp [binOp, Op.floatArith, hn, Sem.run_bind]) h hi
  · rename_i k a' j b' ha hb
    exact snd_flt hop ha hb (fun n hn hk => by subst hk; simp [binOp, Op.floatArith, hn, Sem.run_bind]) h hi
  · rename_i k a' j b' ha hb
    rw [ha] at hx; rw [hb] at hy
    have ex := V_int hx
    have ey := V_int hy
    split at h
    · rename_i hk
      have hk' := kind_eq hk
      split at h
      · cases h
      · rename_i hz
        refine quiet_fin (x := .v (.int k) (k.wrap (Int.tdiv a' b'))) (v := .int k (k.wrap (Int.tdiv a' b'))) ?_ rfl h hi
        simp only [execOp, hop]
        refine run_v ?_
        rw [ex, ey, eqGuard_scalar rfl]
        subst hk'
        have hz' : ¬ b' = (0 : Int) := hz
        simp [Sem.run_bind, binOp, Op.intDiv, hz']
    · cases h
  · rename_i k a' j b' ha hb
    rw [ha] at hx; rw [hb] at hy
    have ex := V_int hx
    have ey := V_int hy
    split at h
    · rename_i hk
      have hk' := kind_eq hk
      split at h
      · cases h
      · rename_i hz
        refine quiet_fin (x := .v (.int k) (Int.tmod a' b')) (v := .int k (Int.tmod a' b')) ?_ rfl h hi
        simp only [execOp, hop]
        refine run_v ?_
        rw [ex, ey, eqGuard_scalar rfl]
        subst hk'
        have hz' : ¬ b' = (0 : Int) := hz
        simp [Sem.run_bind, binOp, Op.intDiv, hz']
    · cases h
  · rename_i k a' j b' ha hb
    rw [ha] at hx; rw [hb] at hy
    have ex := V_int hx
    have ey := V_int hy
    split at h
    · cases h
    · rename_i hz
      refine quiet_fin (x := .v (.int k) (k.wrap (a' * 2 ^ (min (Int.toNat b') k.bits)))) (v := .int k (k.wrap (a' * 2 ^ (min (Int.toNat b') k.bits)))) ?_ rfl h hi
      simp only [execOp, hop]
      refine run_v ?_
      rw [ex, ey, eqGuard_scalar rfl]
      have hz' : ¬ b' < (0 : Int) := hz
      simp [Sem.run_bind, binOp, Op.shift, hz']
  · rename_i k a' j b' ha hb
    rw [ha] at hx; rw [hb] at hy
    have ex := V_int hx
    have ey := V_int hy
    split at h
    · cases h
    · rename_i hz
      refine quiet_fin (x := .v (.int k) (Int.fdiv a' (2 ^ (min (Int.toNat b') k.bits)))) (v := .int k (Int.fdiv a' (2 ^ (min (Int.toNat b') k.bits)))) ?_ rfl h hi
      simp only [execOp, hop]
      refine run_v ?_
      rw [ex, ey, eqGuard_scalar rfl]
      have hz' : ¬ b' < (0 : Int) := hz
      simp [Sem.run_bind, binOp, Op.shift, hz']
  · rename_i a' b' ha hb
    rw [ha] at hx; rw [hb] at hy
    have ex := V_str hx
    have ey := V_str hy
    split at h
    · cases h
    · rename_i hz
      refine quiet_fin (x := .v .str (a' ++ b')) (v := .string (a' ++ b')) ?_ rfl h hi
      simp only [execOp, hop]
      refine run_v ?_
      rw [ex, ey, eqGuard_scalar rfl]
      simp only [Sem.run_bind, Sem.run_pure, Result.andThen_ok, binOp, Op.stringOp, if_neg hz]
  · rename_i xs ys ha hb
    exact hagg false xs ys ha hb rfl h
  · rename_i xs ys ha hb
    exact hagg true xs ys ha hb rfl h
  all_goals first | (cases h; done) | exact snd_binPlain hop h hi
theorem snd_un {op : UnOp} {t : TypeId} {x : Operand} (hop : o.op = .unOp op t x) (h : (match cellV (s.ev x) with
    | some a => if scalarV a then fin1 s o.dst (evS P (Op.unary op a)) K else none
    | none => none) = some r) (hi : Inv w0 Nin D s m a w) : o.wp P a w (Post K r w0 Nin D) Q := by
  have hx := hi.ev x
  split at h
  · rename_i u hu
    split at h
    · have eu := cellV_eq hu hx
      refine snd_fin1 h (fun z hz => ?_) hi
      simp only [execOp, hop]
      exact run_v (by rw [eu]; exact hz)
    · cases h
  · cases h
/-! ### conversions -/
theorem reps_u8 {q : Vw} : ∀ (xs : List Int) (inner : List Value), repsOf (rep q.w q.N (.int .u8)) xs inner → inner = xs.map (Value.int .u8)
  | [], _, h => h
  | x :: xs, _, ⟨c0, c1, e, h0, h1⟩ => by
    rw [e, reps_u8 xs _ h1, show c0 = [.int .u8 x] from h0]; rfl
theorem run_toString {q : Vw} {xs : List Int} {v : Value} (hs : q.Sl (.int .u8) xs v) {src dst e : TypeId} (h1 : P.underlying src = some (.slice e)) (he : P.underlying e = some (.int .u8)) (hd : P.underlying dst = some .string) :
    (convert src dst v).run P q.w = .ok (.string (strOf xs)) q.w := by
  obtain ⟨A, c, inner, rfl, hl, hr, hc⟩ := hs
  have hin := reps_u8 xs inner hr
  rw [run_convert_bytes_string q.w src dst e _ _ c h1 he hd]
  rcases hc with hc | ⟨ad, rfl, _, hcell⟩
  · have hx : xs = [] := by
      rw [hc] at hin
      exact List.map_eq_nil_iff.1 hin.symm
    subst hx
    cases A with
    | none => rfl
    | some ad =>
      have := run_bytesToString (P := P) q.w ad 0 c [] (by simp [loadCells, loadCellsFrom])
      exact this
  · subst hin
    have hload := run_loadCells_list (P := P) q.w ad _ hcell
    rw [List.length_map] at hload
    rw [run_bytesToString q.w ad _ c xs hload, foldl_push_bytes]
    simp [strOf, ByteArray.empty, ByteArray.emptyWithCapacity]
    rfl
theorem snd_conv {src dst : TypeId} {x : Operand} (hop : o.op = .convert src dst x) (h : aOp { P := P, typ := fun _ => none, sh := fun _ => .one none .unit, call := fun _ _ => none, isIn := fun _ => false, inl := fun _ _ _ _ _ => none } 0 o s K = some r) (hi : Inv w0 Nin D s m a w) :
    o.wp P a w (Post K r w0 Nin D) Q := by
  have hx := hi.ev x
  simp only [aOp, hop] at h
  have str : ∀ {xs : List Int}, (vw w0 Nin s m w).Sl (.int .u8) xs (a.eval x) → (match P.underlying src, P.underlying dst with
      | some (.slice et), some .string => (match P.underlying et with | some (.int .u8) => K (s.put o.dst (.v .str (strOf xs))) | _ => none)
      | _, _ => none) = some r → o.wp P a w (Post K r w0 Nin D) Q := by
    intro xs hs h
    split at h
    · rename_i et h1 h2
      split at h
      · rename_i h3
        refine quiet_fin (x := .v .str (strOf xs)) (v := .string (strOf xs)) ?_ rfl h hi
        simp only [execOp, hop]
        exact run_v (run_toString (q := vw w0 Nin s m w) hs h1 h3 h2)
      · cases h
    · cases h
  split at h
  · rename_i k b hb
    rw [hb] at hx
    have ex := V_flt hx
    split at h
    · rename_i j hj
      split at h
      · rename_i fk hsrc
        obtain ⟨n, hn, hK⟩ := obind_some h
        refine quiet_fin (x := .v (.int j) n) (v := .int j n) ?_ rfl hK hi
        simp only [execOp, hop]
        refine run_v ?_
        rw [ex]
        unfold fToI at hn
        split at hn
        · rename_i n' hto
          split at hn
          · rename_i hin
            have := Option.some.inj hn
            subst this
            simp only [convert, Sem.run_bind, run_underlying hsrc, run_underlying hj, Result.andThen_ok, Conv.floatToInt, hto]
            rw [if_pos hin]; rfl
          · cases hn
        · cases hn
      · cases h
    · split at h
      · refine snd_fin1 h (fun z hz => ?_) hi
        simp only [execOp, hop]
        exact run_v (by rw [ex]; exact hz)
      · cases h
  · rename_i xs hb; rw [hb] at hx; exact str (sl_of_rep hx) h
  · rename_i xs hb; rw [hb] at hx; exact str hx h
  · rename_i τ T xs hb; rw [hb] at hx; exact str hx.2.1 h
  · rename_i hb
    rw [hb] at hx
    have hv : a.eval x = .slice none 0 0 := hx
    exact str (xs := []) ⟨none, 0, [], hv, Nat.le_refl _, rfl, .inl rfl⟩ h
  · split at h
    · rename_i u hu
      split at h
      · have eu := cellV_eq hu hx
        refine snd_fin1 h (fun z hz => ?_) hi
        simp only [execOp, hop]
        exact run_v (by rw [eu]; exact hz)
      · cases h
    · cases h
/-! ### the length -/
theorem mmV_spec {mx : Bool} {x y z : AV} (h : mmV mx x y = some z) : ∃ (k : IntKind) (a b : Int), x = .v (.int k) a ∧ y = .v (.int k) b ∧ z = .v (.int k) (bif mx then maxI a b else minI a b) := by
  unfold mmV at h
  split at h
  · rename_i j a k b
    split at h
    · rename_i hk
      have := Ty.kindNo_inj hk
      subst this
      exact ⟨j, a, b, rfl, rfl, (Option.some.inj h).symm⟩
    · cases h
  · cases h
theorem fm2_spec {mx : Bool} {k : FloatKind} {a b c : Nat} (h : fm2 mx k a b = some c) : (k.format.order a b).isSome = true ∧ c = bif mx then maxF k a b else minF k a b := by
  unfold fm2 at h
  split at h
  · rename_i ho
    exact ⟨ho, (Option.some.inj h).symm⟩
  · cases h
theorem run_min2 {k : FloatKind} {a b : Nat} (h : (k.format.order a b).isSome = true) (ts : Array TypeId) (t : TypeId) (w : World) : (Builtin.min_ ts t #[.float k a, .float k b]).run P w = .ok (.float k (minF k a b)) w := by
  cases ho : k.format.order a b with
  | none => rw [ho] at h; cases h
  | some c => cases c <;> simp [Builtin.min_, Builtin.min2, minF, ho]
theorem run_max2 {k : FloatKind} {a b : Nat} (h : (k.format.order a b).isSome = true) (ts : Array TypeId) (t : TypeId) (w : World) : (Builtin.max_ ts t #[.float k a, .float k b]).run P w = .ok (.float k (maxF k a b)) w := by
  cases ho : k.format.order a b with
  | none => rw [ho] at h; cases h
  | some c => cases c <;> simp [Builtin.max_, Builtin.max2, maxF, ho]
theorem snd_mm (mx : Bool) {c : Call} {x y : Operand} (hop : o.op = .call c) (hc : c.callee = .builtin (if mx then .max else .min)) (ha : c.args.toList = [x, y])
    (h : mmA mx (s.ev x) (s.ev y) s o.dst K = some r) (hi : Inv w0 Nin D s m a w) : o.wp P a w (Post K r w0 Nin D) Q := by
  have ha' : c.args = #[x, y] := by rw [← Array.toList_inj]; exact ha
  have hx := hi.ev x
  have hy := hi.ev y
  unfold mmA at h
  split at h
  · rename_i j u h1
    split at h
    case h_2 => cases h
    rename_i k v h2
    split at h
    case isFalse => cases h
    rename_i hk
    have := Ty.fkNo_inj hk
    subst this
    obtain ⟨p, hp, hK⟩ := obind_some h
    obtain ⟨ho, rfl⟩ := fm2_spec hp
    rw [h1] at hx
    rw [h2] at hy
    cases mx with
    | false =>
      refine quiet_fin (x := .v (.flt j) (minF j u v)) (v := .float j (minF j u v)) ?_ rfl hK hi
      simp only [execOp, hop, resolve, hc, ha', List.map_toArray, List.map_cons, List.map_nil, Sem.run_bind, Sem.run_pure, Result.andThen_ok, invoke, builtin, V_flt hx, V_flt hy, run_min2 ho, Bool.false_eq_true, if_false]
    | true =>
      refine quiet_fin (x := .v (.flt j) (maxF j u v)) (v := .float j (maxF j u v)) ?_ rfl hK hi
      simp only [execOp, hop, resolve, hc, ha', List.map_toArray, List.map_cons, List.map_nil, Sem.run_bind, Sem.run_pure, Result.andThen_ok, invoke, builtin, V_flt hx, V_flt hy, run_max2 ho, if_true]
  · split at h
    · rename_i z hz
      obtain ⟨k, u, v, h1, h2, rfl⟩ := mmV_spec hz
      rw [h1] at hx
      rw [h2] at hy
      cases mx with
      | false =>
        refine quiet_fin (x := .v (.int k) (minI u v)) (v := .int k (minI u v)) ?_ rfl h hi
        simp only [execOp, hop, resolve, hc, ha', List.map_toArray, List.map_cons, List.map_nil, Sem.run_bind, Sem.run_pure, Result.andThen_ok, invoke, builtin, V_int hx, V_int hy, run_min_int2, minI, Bool.false_eq_true, if_false]
      | true =>
        refine quiet_fin (x := .v (.int k) (maxI u v)) (v := .int k (maxI u v)) ?_ rfl h hi
        simp only [execOp, hop, resolve, hc, ha', List.map_toArray, List.map_cons, List.map_nil, Sem.run_bind, Sem.run_pure, Result.andThen_ok, invoke, builtin, V_int hx, V_int hy, run_max_int2, maxI, if_true]
    · cases h
theorem snd_len {c : Call} {x : Operand} {t : TypeId} (hop : o.op = .call c) (hc : c.callee = .builtin .len) (ha : c.args.toList = [x]) (ht : c.argTypes.toList = [t])
    (h : (match P.underlying t with
        | some .string => (match s.ev x with | .v .str b => K (s.put o.dst (.v (.int .i64) (b.size : Int))) | _ => none)
        | some (.slice _) => (match slElems (s.ev x), s.ev x with
          | some ⟨_, xs⟩, _ => K (s.put o.dst (.v (.int .i64) (xs.length : Int)))
          | none, .nilS => K (s.put o.dst (.v (.int .i64) (0 : Int)))
          | none, _ => none)
        | _ => none) = some r) (hi : Inv w0 Nin D s m a w) : o.wp P a w (Post K r w0 Nin D) Q := by
  have hx := hi.ev x
  have ha' : c.args = #[x] := by rw [← Array.toList_inj]; exact ha
  have ht' : c.argTypes = #[t] := by rw [← Array.toList_inj]; exact ht
  have run : ∀ n : Int, (Builtin.len_ #[t] o.type #[a.eval x]).run P w = .ok (.int .i64 n) w → (execOp a.eval o).run P w = .ok (.value (.int .i64 n)) w := by
    intro n hn
    simp only [execOp, hop, resolve, hc, ha', ht', List.map_toArray, List.map_cons, List.map_nil, Sem.run_bind, Sem.run_pure, Result.andThen_ok, invoke, builtin, hn]
  split at h
  · rename_i hu
    split at h
    · rename_i b hb
      rw [hb] at hx
      have hx' := V_str hx
      refine quiet_fin (x := .v (.int .i64) (b.size : Int)) (v := .int .i64 (b.size : Int)) (run _ ?_) rfl h hi
      rw [hx']
      simp [Builtin.len_, run_underlying hu, goInt]
    · cases h
  · rename_i et hu
    split at h
    · rename_i _ _ e xs hsl
      obtain ⟨A, c', inner, he, _⟩ := slElems_sound hsl hx
      refine quiet_fin (x := .v (.int .i64) (xs.length : Int)) (v := .int .i64 (xs.length : Int)) (run _ ?_) rfl h hi
      rw [he]
      simp [Builtin.len_, run_underlying hu, goInt]
    · rename_i hsl hb
      rw [hb] at hx
      have hv : a.eval x = .slice none 0 0 := hx
      refine quiet_fin (x := .v (.int .i64) (0 : Int)) (v := .int .i64 0) (run _ ?_) rfl h hi
      rw [hv]
      simp [Builtin.len_, run_underlying hu, goInt]
    · cases h
  · cases h
end
end Go.Eng
