/- ENGINE, part J: make, boxes, stores. -/
import Derived.Test.YtcglkacplbeakaaEngI
namespace Go.Eng
open Go Go.RowKit
theorem made_succ (z : Array Value) (k : Nat) (hk : z.size = k) (n : Nat) : (madeCells z ((n + 1) * k)).toList = z.toList ++ (madeCells z (n * k)).toList := by
  unfold madeCells
  simp only [Array.toList_map, Array.toList_range]
  rw [Nat.succ_mul, Nat.add_comm, List.range_add, List.map_append]
  congr 1
  · apply List.ext_getElem
    · simp [hk]
    · intro i h1 h2
      have hi : i < k := by simpa using h1
      simp only [List.getElem_map, List.getElem_range, hk, Nat.mod_eq_of_lt hi]
      rw [getElem!_pos z i (by omega)]
      simp
  · rw [List.map_map]
    apply List.map_congr_left
    intro i _
    simp only [Function.comp, hk, Nat.add_mod_left]
section
variable {R : Type} {Γ : Ctx} {P : Program} {w0 : World} {Nin D : Nat → Prop} {s : St} {m : Mp} {a : Act} {w : World} {o : Oper} {K : St → Option R} {r : R} {Q : Exit → Act → World → Prop}
theorem reps_made {q : Vw} {e : Ty} {x : e.den} {z : Array Value} (hr : rep q.w q.N e x z.toList) : ∀ n : Nat, repsOf (rep q.w q.N e) (List.replicate n x) (madeCells z (n * e.sz)).toList := by
  have hk : z.size = e.sz := by rw [← rep_len _ _ _ hr, Array.length_toList]
  intro n
  induction n with
  | zero => show _ = _; rw [Nat.zero_mul]; simp [madeCells]
  | succ n ih => exact ⟨z.toList, _, made_succ z e.sz hk n, hr, ih⟩
theorem snd_makeSlice {n : Nat} (hn : ¬ D n) {t : TypeId} {l c : Operand} (hop : o.op = .makeSlice t l c)
    (h : (match elemTy Γ t, s.ev l, s.ev c with
    | some (et, e), .v (.int .i64) a, .v (.int .i64) b => match (Γ.P.info? et).bind (·.zero) with
      | some z => match (ofConst z).asTy e with
        | some x => if (0 : Int) ≤ a ∧ (a : Int) = b ∧ (b : Int) * (bytesT Γ.P et : Int) ≤ (roomOk : Int) then
            K (St.put { s with live := addBit s.live (8 * n) } o.dst (.own (8 * n) et e (List.replicate (Int.toNat a) x))) else none
        | none => none
      | none => none
    | _, _, _ => none) = some r) (hi : Inv w0 Nin D s m a w) : o.wp Γ.P a w (Post K r w0 Nin (fun k => D k ∨ k = n)) Q := by
  have hl := hi.ev l
  have hc := hi.ev c
  split at h
  · rename_i et e x y hel h1 h2
    rw [h1] at hl
    rw [h2] at hc
    have hl' := V_int hl
    have hc' := V_int hc
    obtain ⟨hu, hty, i, hinf, hsz, hs0, hb0, hbt, _⟩ := elemTy_sound hel
    split at h
    · rename_i z hz
      split at h
      · rename_i zx hzx
        split at h
        · rename_i hcond
          obtain ⟨c1, c2, c3⟩ := hcond
          have hz' : i.zero = some z := by rw [hinf] at hz; exact hz
          have hrep := asTy_V (q := vw w0 Nin s m w) hzx (V_ofConst _ z)
          have hn0 : ((Int.toNat x : Nat) : Int) = x := Int.toNat_of_nonneg c1
          rw [hbt, ← c2, ← hn0] at c3
          have hroom : i.bytes * Int.toNat x ≤ 140737488355328 := by
            have : ((Int.toNat x * i.bytes : Nat) : Int) ≤ ((140737488355328 : Nat) : Int) := by rw [Int.natCast_mul]; exact c3
            rw [Nat.mul_comm]
            omega
          have hx : Int.toNat x ≤ 140737488355328 := Nat.le_trans (Nat.le_mul_of_pos_left _ hb0) hroom
          obtain ⟨w', hrun, hown, hg⟩ := run_make_full (P := Γ.P) w w0.heap.size t et i z e.sz hu hinf hz' hsz .i64 .i64 (Int.toNat x) (by omega) (by simp only [maxLen]; omega) hi.below.size
          obtain ⟨m', hI, hV⟩ := own_fin (n := n) (id := 8 * n) (live' := addBit s.live (8 * n)) (xs := List.replicate (Int.toNat x) zx) (inner := (madeCells z.cells (Int.toNat x * e.sz)).toList) hi hn (by omega) none
            (fun t => by rw [bit_add]; simp [Bool.or_comm]) (fun τ hτ => by cases hτ) (by rw [List.length_replicate]; exact hown) hg (.inr ⟨_, rfl, Nat.le_refl _⟩) (fun τ k hτ => by cases hτ) (fun τ hτ => by cases hτ) (reps_made (q := vw w0 Nin s m w) hrep _)
          refine wp_value (w' := w') ?_ ⟨_, m', h, hI.put o.dst hV⟩
          simp only [execOp, hop]
          refine run_v ?_
          rw [hl', hc', ← c2, ← hn0]
          exact hrun
        · cases h
      · cases h
    · cases h
  · cases h
/-! ### boxes -/
theorem box_step (h : Inv w0 Nin D s m a w) {n : Nat} (hn : ¬ D n) (hlt : n < s.bx.length) {T : TypeId} {cs : List AV} {vs : List Value} (h2 : all2 (V1 (vw w0 Nin s m w)) cs vs) (h1 : ∀ u ∈ vs, u.oneCell' = true) :
    ∃ m', Inv w0 Nin (fun k => D k ∨ k = n) { s with bx := s.bx.set n (some (T, cs)) } m' a (w.alloc (.cells vs.toArray T)) ∧
      V (vw w0 Nin { s with bx := s.bx.set n (some (T, cs)) } m' (w.alloc (.cells vs.toArray T))) (.ptr n 0) (.pointer (some ⟨w.heap.size, 0, none⟩)) := by
  have hget : ∀ (b : Nat) (x : TypeId × List AV), (s.bx.set n (some (T, cs)))[b]? = some (some x) → (b = n ∧ x = (T, cs)) ∨ (b ≠ n ∧ s.bx[b]? = some (some x)) := by
    intro b x hb
    by_cases he : n = b
    · subst he
      rw [List.getElem?_set_self hlt] at hb
      simp only [Option.some.injEq] at hb
      exact .inl ⟨rfl, hb.symm⟩
    · rw [List.getElem?_set_ne he] at hb
      exact .inr ⟨fun h => he h.symm, hb⟩
  have hsz : w0.heap.size ≤ w.heap.size := h.below.size
  have hold : ∀ k, k < w.heap.size → (w.alloc (.cells vs.toArray T)).heap[k]? = w.heap[k]? := fun k hk => Below.heap_alloc w _ k hk
  have hbo : ∀ (b : Nat) (T : TypeId) (cs : List AV), s.bx[b]? = some (some (T, cs)) → b ≠ n ∧ m.B b < w.heap.size := by
    intro b T cs hb
    obtain ⟨_, vs, hh, _⟩ := h.boxes b T cs hb
    exact ⟨fun he => hn (he ▸ h.bD b T cs hb), (Array.getElem?_eq_some_iff.1 hh).1⟩
  refine ⟨{ m with B := fun i => if i = n then w.heap.size else m.B i }, ?_⟩
  have hto : (vw w0 Nin s m w).To (vw w0 Nin { s with bx := s.bx.set n (some (T, cs)) } { m with B := fun i => if i = n then w.heap.size else m.B i } (w.alloc (.cells vs.toArray T))) := by
    have hN : ∀ b, (vw w0 Nin s m w).N b → (vw w0 Nin { s with bx := s.bx.set n (some (T, cs)) } { m with B := fun i => if i = n then w.heap.size else m.B i } (w.alloc (.cells vs.toArray T))).N b ∧ (w.alloc (.cells vs.toArray T)).heap[b]? = w.heap[b]? := by
      rintro b ⟨c1, c2, c3, c4⟩
      refine ⟨⟨by show b < (w.alloc (.cells vs.toArray T)).heap.size; rw [World.size_alloc]; omega, c2, c3, fun i T' cs' hb => ?_⟩, hold b c1⟩
      rcases hget i _ hb with ⟨rfl, _⟩ | ⟨hne, hb'⟩
      · show (if i = i then w.heap.size else m.B i) ≠ b
        rw [if_pos rfl]; exact fun he => by subst he; exact Nat.lt_irrefl _ c1
      · show (if i = n then w.heap.size else m.B i) ≠ b
        rw [if_neg hne]; exact c4 i T' cs' hb'
    refine ⟨rfl, hN, ?_, ?_, ?_⟩
    · rintro b hi' (hb | ⟨τ, hl, hG, hE⟩)
      · exact ⟨.inl (hN b hb).1, fun o _ => cell_of_heap (hN b hb).2⟩
      · exact ⟨.inr ⟨τ, hl, hG, hE⟩, fun o _ => cell_of_heap (hold b (h.toks τ b hl hG).2)⟩
    · exact fun τ hu => ⟨hu, fun hl => ⟨hl, rfl, rfl, fun k hk => hold k (h.toks τ k hl hk).2⟩⟩
    · rintro b ⟨T', cs', hb⟩
      obtain ⟨hne, _⟩ := hbo b T' cs' hb
      refine ⟨⟨T', cs', ?_⟩, if_neg hne⟩
      show (s.bx.set n (some (T, cs)))[b]? = _
      rw [List.getElem?_set_ne (fun he => hne he.symm)]
      exact hb
  refine ⟨h.next (s' := { s with bx := s.bx.set n (some (T, cs)) }) (m' := { m with B := fun i => if i = n then w.heap.size else m.B i }) rfl hto (h.below.alloc hsz _) ?_ h.inj ?_ ?_ ?_ (fun τ hu => .inl (h.uD τ hu)) ?_ h.liveU, ?_⟩
  · intro τ k hl hG
    have := h.toks τ k hl hG
    exact ⟨this.1, by rw [World.size_alloc]; omega⟩
  · intro b T' cs' hb
    rcases hget b _ hb with ⟨rfl, he⟩ | ⟨hne, hb'⟩
    · simp only [Prod.mk.injEq] at he
      obtain ⟨rfl, rfl⟩ := he
      refine ⟨by show _ ≤ (if b = b then w.heap.size else m.B b); rw [if_pos rfl]; exact hsz, vs, ?_, all2_imp (fun _ _ => hto.v1) _ _ h2, h1⟩
      show (w.alloc _).heap[if b = b then w.heap.size else m.B b]? = _
      rw [if_pos rfl]
      exact heap_alloc_new w _
    · obtain ⟨c1, us, c2, c3, c4⟩ := h.boxes b T' cs' hb'
      refine ⟨by show _ ≤ (if b = n then w.heap.size else m.B b); rw [if_neg hne]; exact c1, us, ?_, all2_imp (fun _ _ => hto.v1) _ _ c3, c4⟩
      show (w.alloc _).heap[if b = n then w.heap.size else m.B b]? = _
      rw [if_neg hne, hold _ (hbo b T' cs' hb').2]
      exact c2
  · intro b T1 cs1 b' T2 cs2 hb hb' he
    have he' : (if b = n then w.heap.size else m.B b) = (if b' = n then w.heap.size else m.B b') := he
    rcases hget b _ hb with ⟨rfl, _⟩ | ⟨hne, hb1⟩
    · rcases hget b' _ hb' with ⟨rfl, _⟩ | ⟨hne', hb2⟩
      · rfl
      · rw [if_pos rfl, if_neg hne'] at he'
        have := (hbo b' T2 cs2 hb2).2; omega
    · rcases hget b' _ hb' with ⟨rfl, _⟩ | ⟨hne', hb2⟩
      · rw [if_pos rfl, if_neg hne] at he'
        have := (hbo b T1 cs1 hb1).2; omega
      · rw [if_neg hne, if_neg hne'] at he'
        exact h.binj b T1 cs1 b' T2 cs2 hb1 hb2 he'
  · intro τ k b T' cs' hl hG hb
    show (if b = n then w.heap.size else m.B b) ≠ k
    rcases hget b _ hb with ⟨rfl, _⟩ | ⟨hne, hb'⟩
    · rw [if_pos rfl]
      have := (h.toks τ k hl hG).2; omega
    · rw [if_neg hne]; exact h.sep τ k b T' cs' hl hG hb'
  · intro b T' cs' hb
    rcases hget b _ hb with ⟨rfl, _⟩ | ⟨_, hb'⟩
    · exact .inr rfl
    · exact .inl (h.bD b T' cs' hb')
  · refine ⟨?_, T, cs, ?_⟩
    · show _ = Value.pointer (some ⟨if n = n then w.heap.size else m.B n, 0, none⟩)
      rw [if_pos rfl]
    · show (s.bx.set n (some (T, cs)))[n]? = _
      rw [List.getElem?_set_self hlt]
theorem snd_box {n : Nat} (hn : ¬ D n) {T : TypeId} {x : Operand} (hop : o.op = .box T x) (h : (match sizedCells P T (s.ev x) with
    | some cs => if Nat.blt n s.bx.length then K (St.put { s with bx := s.bx.set n (some (T, cs)) } o.dst (.ptr n 0)) else none
    | none => none) = some r) (hi : Inv w0 Nin D s m a w) : o.wp P a w (Post K r w0 Nin (fun k => D k ∨ k = n)) Q := by
  split at h
  · rename_i cs hcs
    split at h
    · rename_i hb
      obtain ⟨_, vs, hv, h2, h1⟩ := sizedCells_V hcs (hi.ev x)
      obtain ⟨m', hI, hV⟩ := box_step (n := n) hi hn (Nat.le_of_ble_eq_true hb) (T := T) h2 h1
      refine wp_value ?_ ⟨_, m', h, hI.put o.dst hV⟩
      simp only [execOp, hop]
      refine run_v ?_
      simp [Instr.box, newVar, newRow, newObj, Sem.run, hv]
    · cases h
  · cases h
theorem snd_alloc {n : Nat} (hn : ¬ D n) {T : TypeId} (hop : o.op = .alloc T) (h : (match (P.info? T).bind (·.zero) with
    | some z => match sizedCells P T (ofConst z) with
      | some cs => if Nat.blt n s.bx.length then K (St.put { s with bx := s.bx.set n (some (T, cs)) } o.dst (.ptr n 0)) else none
      | none => none
    | none => none) = some r) (hi : Inv w0 Nin D s m a w) : o.wp P a w (Post K r w0 Nin (fun k => D k ∨ k = n)) Q := by
  split at h
  · rename_i z hz
    split at h
    · rename_i cs hcs
      split at h
      · rename_i hb
        obtain ⟨_, vs, hv, h2, h1⟩ := sizedCells_V hcs (V_ofConst (vw w0 Nin s m w) z)
        obtain ⟨m', hI, hV⟩ := box_step (n := n) hi hn (Nat.le_of_ble_eq_true hb) (T := T) h2 h1
        refine wp_value ?_ ⟨_, m', h, hI.put o.dst hV⟩
        simp only [execOp, hop]
        refine run_v ?_
        cases hinf : P.info? T with
        | none => rw [hinf] at hz; cases hz
        | some inf =>
          rw [hinf] at hz
          have hz' : inf.zero = some z := hz
          simp [Instr.alloc, zeroValue, typeInfo, hinf, hz', newVar, newRow, newObj, Sem.run, hv]
      · cases h
    · cases h
  · cases h
theorem snd_store {T : TypeId} {x y : Operand} (hop : o.op = .store T x y) (h : (match s.ev x, sizedCells P T (s.ev y) with
    | .ptr b off, some new => match s.bx[b]? with
      | some (some (T', cs)) => if Nat.ble (off + new.length) cs.length && Nat.blt 0 (szOf P T) then K (St.put { s with bx := s.bx.set b (some (T', setCells cs new off)) } o.dst (.raw undef)) else none
      | _ => none
    | _, _ => none) = some r) (hi : Inv w0 Nin D s m a w) : o.wp P a w (Post K r w0 Nin D) Q := by
  have hx := hi.ev x
  split at h
  · rename_i b off new hb hnew
    rw [hb] at hx
    obtain ⟨hlen, nvs, hnv, hn2, hn1⟩ := sizedCells_V hnew (hi.ev y)
    split at h
    · rename_i T' cs hbx
      split at h
      · rename_i hle
        rw [Bool.and_eq_true] at hle
        have hle' := Nat.le_of_ble_eq_true hle.1
        have hsz0 := hle.2
        obtain ⟨hb0, vs, hh, h2, h1⟩ := hi.boxes b T' cs hbx
        have hx' : a.eval x = .pointer (some ⟨m.B b, off, none⟩) := hx.1
        have hll := all2_len h2
        have hnl := all2_len hn2
        have hst := run_storeCells_at P (m.B b) off T' nvs 0 vs.toArray w hh (by simp; omega) hn1
        simp only [Nat.add_zero] at hst
        have hblt : b < s.bx.length := (List.getElem?_eq_some_iff.1 hbx).1
        have hget : ∀ (i : Nat) (z : TypeId × List AV), (s.bx.set b (some (T', setCells cs new off)))[i]? = some (some z) → (i = b ∧ z = (T', setCells cs new off)) ∨ (i ≠ b ∧ s.bx[i]? = some (some z)) := by
          intro i z hz
          by_cases he : b = i
          · subst he
            rw [List.getElem?_set_self hblt] at hz
            simp only [Option.some.injEq] at hz
            exact .inl ⟨rfl, hz.symm⟩
          · rw [List.getElem?_set_ne he] at hz
            exact .inr ⟨fun h => he h.symm, hz⟩
        have hgetB : ∀ (i : Nat) (z : TypeId × List AV), (s.bx.set b (some (T', setCells cs new off)))[i]? = some (some z) → ∃ z', s.bx[i]? = some (some z') := by
          intro i z hz
          rcases hget i z hz with ⟨rfl, _⟩ | ⟨_, hz'⟩
          · exact ⟨_, hbx⟩
          · exact ⟨_, hz'⟩
        generalize hw' : w.setRow (m.B b) (vs.toArray.toList.take off ++ nvs ++ vs.toArray.toList.drop (off + nvs.length)).toArray = w' at hst
        have hnew : w'.heap[m.B b]? = some (.cells (vs.take off ++ nvs ++ vs.drop (off + nvs.length)).toArray T' (0, 0)) := by rw [← hw']; exact setRow_heap w _ _ _ _ _ hh
        have hother : ∀ k, k ≠ m.B b → w'.heap[k]? = w.heap[k]? := fun k hk => by rw [← hw']; exact setRow_other w _ k _ hk
        have hsame : w'.os = w.os ∧ w'.tape = w.tape ∧ w'.output = w.output ∧ w'.heap.size = w.heap.size := by rw [← hw']; exact ⟨rfl, rfl, rfl, by simp [World.setRow]⟩
        have hto : (vw w0 Nin s m w).To (vw w0 Nin { s with bx := s.bx.set b (some (T', setCells cs new off)) } m w') := by
          have hN : ∀ k, (vw w0 Nin s m w).N k → (vw w0 Nin { s with bx := s.bx.set b (some (T', setCells cs new off)) } m w').N k ∧ w'.heap[k]? = w.heap[k]? := by
            rintro k ⟨c1, c2, c3, c4⟩
            refine ⟨⟨by show k < w'.heap.size; rw [hsame.2.2.2]; exact c1, c2, c3, fun i T1 cs1 hz => ?_⟩, hother k (fun he => c4 b T' cs hbx he.symm)⟩
            obtain ⟨⟨T2, cs2⟩, hz'⟩ := hgetB i _ hz
            exact c4 i T2 cs2 hz'
          refine ⟨rfl, hN, ?_, ?_, ?_⟩
          · rintro k hi' (hk | ⟨τ, hl, hG, hE⟩)
            · exact ⟨.inl (hN k hk).1, fun o _ => cell_of_heap (hN k hk).2⟩
            · exact ⟨.inr ⟨τ, hl, hG, hE⟩, fun o _ => cell_of_heap (hother k (fun he => hi.sep τ k b T' cs hl hG hbx he.symm))⟩
          · exact fun τ hu => ⟨hu, fun hl => ⟨hl, rfl, rfl, fun k hk => hother k (fun he => hi.sep τ k b T' cs hl hk hbx he.symm)⟩⟩
          · rintro i ⟨T1, cs1, hz⟩
            refine ⟨?_, rfl⟩
            by_cases he : b = i
            · subst he
              exact ⟨T', setCells cs new off, by show (s.bx.set b _)[b]? = _; rw [List.getElem?_set_self hblt]⟩
            · exact ⟨T1, cs1, by show (s.bx.set b _)[i]? = _; rw [List.getElem?_set_ne he]; exact hz⟩
        have hI : Inv w0 Nin D { s with bx := s.bx.set b (some (T', setCells cs new off)) } m a w' := by
          refine hi.next (s' := { s with bx := s.bx.set b (some (T', setCells cs new off)) }) (m' := m) rfl hto ?_ ?_ hi.inj ?_ ?_ ?_ hi.uD ?_ hi.liveU
          · exact hi.below.trans ⟨hsame.1, hsame.2.1, hsame.2.2.1, by rw [hsame.2.2.2]; exact Nat.le_refl _, fun k hk => hother k (by omega)⟩
          · intro τ k hl hG
            rw [hsame.2.2.2]; exact hi.toks τ k hl hG
          · intro i T1 cs1 hz
            rcases hget i _ hz with ⟨rfl, he⟩ | ⟨hne, hz'⟩
            · simp only [Prod.mk.injEq] at he
              obtain ⟨rfl, rfl⟩ := he
              refine ⟨hb0, _, hnew, all2_imp (fun _ _ => hto.v1) _ _ (setCells_all2 h2 hn2 off), fun u hu => ?_⟩
              rcases List.mem_append.1 hu with hu | hu
              · rcases List.mem_append.1 hu with hu | hu
                · exact h1 u (List.mem_of_mem_take hu)
                · exact hn1 u hu
              · exact h1 u (List.mem_of_mem_drop hu)
            · obtain ⟨c1, us, c2, c3, c4⟩ := hi.boxes i T1 cs1 hz'
              exact ⟨c1, us, (hother _ (fun he => hne (hi.binj i T1 cs1 b T' cs hz' hbx he))).trans c2, all2_imp (fun _ _ => hto.v1) _ _ c3, c4⟩
          · intro i T1 cs1 j T2 cs2 hz hz' he
            obtain ⟨⟨T3, cs3⟩, h3⟩ := hgetB i _ hz
            obtain ⟨⟨T4, cs4⟩, h4⟩ := hgetB j _ hz'
            exact hi.binj i T3 cs3 j T4 cs4 h3 h4 he
          · intro τ k i T1 cs1 hl hG hz
            obtain ⟨⟨T3, cs3⟩, h3⟩ := hgetB i _ hz
            exact hi.sep τ k i T3 cs3 hl hG h3
          · intro i T1 cs1 hz
            obtain ⟨⟨T3, cs3⟩, h3⟩ := hgetB i _ hz
            exact hi.bD i T3 cs3 h3
        refine wp_skip' (w' := w') ?_ ⟨_, m, h, hI.put o.dst (x := .raw undef) rfl⟩
        simp only [execOp, hop]
        rw [Sem.run_bind]
        have hsv : (Instr.storeAt T (a.eval x) (a.eval y)).run P w = .ok () w' := by
          have hz : (a.eval y).cells.size = szOf P T := by rw [hnv]; simp; omega
          simp only [Instr.storeAt, hx', Instr.sureAddr, Sem.run_bind, Sem.run_pure, Result.andThen_ok, storeVar, run_sizeOf hsz0]
          rw [if_neg (by rw [hz]; exact fun h => h rfl), hnv]
          exact hst
        rw [hsv]
        rfl
      · cases h
    · cases h
  · cases h
end
end Go.Eng
