/- ENGINE, part F: operations that make memory: what is the frame's own grows, what is read stays. -/
import Derived.Test.YtogancdiihbjfaaEngE
import Derived.Deep.AppendSrc
import Derived.Deep.Upon
import Derived.Laws.OwnMore
namespace Go.Eng
open Go Go.RowKit
section
variable {w0 : World} {Nin : Env} {D D' : Nat → Prop} {s s' : St} {m m' : Mp} {a : Act} {w w' : World}
/-- One step of memory, the temporaries as they were. -/
theorem Inv.next (h : Inv w0 Nin D s m a w) (ht : s'.t = s.t) (hto : (vw w0 Nin s m w).To (vw w0 Nin s' m' w')) (hb : Below w0.heap.size w0 w')
    (toks : ∀ τ k : Nat, hasBit s'.live τ = true → m'.G τ = some k → w0.heap.size ≤ k ∧ k < w'.heap.size)
    (inj : ∀ τ τ' k : Nat, hasBit s'.live τ = true → hasBit s'.live τ' = true → m'.G τ = some k → m'.G τ' = some k → τ = τ')
    (boxes : ∀ (b : Nat) (T : TypeId) (cs : List AV), s'.bx[b]? = some (some (T, cs)) → w0.heap.size ≤ m'.B b ∧ ∃ vs : List Value, w'.heap[m'.B b]? = some (.cells vs.toArray T (0, 0)) ∧ all2 (V1 (vw w0 Nin s' m' w')) cs vs ∧ ∀ u ∈ vs, u.oneCell' = true)
    (binj : ∀ (b : Nat) (T : TypeId) (cs : List AV) (b' : Nat) (T' : TypeId) (cs' : List AV), s'.bx[b]? = some (some (T, cs)) → s'.bx[b']? = some (some (T', cs')) → m'.B b = m'.B b' → b = b')
    (sep : ∀ (τ k b : Nat) (T : TypeId) (cs : List AV), hasBit s'.live τ = true → m'.G τ = some k → s'.bx[b]? = some (some (T, cs)) → m'.B b ≠ k)
    (uD : ∀ τ, m'.U τ → D' (τ / 8)) (bD : ∀ (b : Nat) (T : TypeId) (cs : List AV), s'.bx[b]? = some (some (T, cs)) → D' b)
    (liveU : ∀ τ, hasBit s'.live τ = true → m'.U τ) (hgh : s'.g = s.g := by rfl) : Inv w0 Nin D' s' m' a w' :=
  ⟨hb, h.defers, by rw [ht]; exact h.tlen, fun i x v hx hv => hto.v (h.tmps i x v (by rw [← ht]; exact hx) hv), toks, inj, boxes, binj, sep, uD, bD, liveU, by rw [hgh]; exact all2_imp (fun _ _ => hto.v) _ _ h.ghost⟩
/-- Slices are made or grow: 'cons' is the one that goes into another. -/
theorem grow_step (h : Inv w0 Nin D s m a w) (ht : s'.t = s.t) (hbx : s'.bx = s.bx) (hB : m'.B = m.B) (cons : Option Nat) (hcons : ∀ τ, cons = some τ → hasBit s.live τ = true)
    (hg : w.grownBy w' (cons.bind m.G)) (hbelow : Below w0.heap.size w0 w')
    (hU : ∀ τ, m.U τ → m'.U τ) (hold : ∀ τ, m.U τ → m'.G τ = m.G τ ∧ m'.E τ = m.E τ)
    (hlive : ∀ τ, m.U τ → hasBit s'.live τ = true → hasBit s.live τ = true ∧ cons ≠ some τ)
    (hkeep : ∀ τ, hasBit s.live τ = true → cons ≠ some τ → hasBit s'.live τ = true)
    (hnew : ∀ τ k, ¬ m.U τ → hasBit s'.live τ = true → m'.G τ = some k → w0.heap.size ≤ k ∧ k < w'.heap.size ∧ (w.heap.size ≤ k ∨ cons.bind m.G = some k))
    (hinj : ∀ τ τ' k, ¬ m.U τ → ¬ m.U τ' → hasBit s'.live τ = true → hasBit s'.live τ' = true → m'.G τ = some k → m'.G τ' = some k → τ = τ')
    (hpre : ∀ τ k, cons = some τ → m.G τ = some k → (∀ o, o < m.E τ → w'.cell? ⟨k, o, none⟩ = w.cell? ⟨k, o, none⟩) ∧ ∀ τ', ¬ m.U τ' → hasBit s'.live τ' = true → m'.G τ' = some k → m.E τ ≤ m'.E τ')
    (uD : ∀ τ, m'.U τ → D' (τ / 8)) (hD : ∀ n, D n → D' n) (liveU : ∀ τ, hasBit s'.live τ = true → m'.U τ) (hgh : s'.g = s.g := by rfl) :
    (vw w0 Nin s m w).To (vw w0 Nin s' m' w') ∧ Inv w0 Nin D' s' m' a w' := by
  -- a block of another live slice, or of none, stands
  have hrow : ∀ k, k < w.heap.size → (∀ τ, cons = some τ → m.G τ ≠ some k) → w'.heap[k]? = w.heap[k]? := by
    intro k hk hne
    refine hg.block k hk ?_
    cases hc : cons with
    | none => simp
    | some τ =>
      intro he
      exact hne τ hc (by simpa using he.symm)
  have hstand : ∀ τ k, hasBit s.live τ = true → cons ≠ some τ → m.G τ = some k → w'.heap[k]? = w.heap[k]? := by
    intro τ k hl hne hG
    refine hrow k (h.toks τ k hl hG).2 (fun τ' hc hG' => ?_)
    have := h.inj τ τ' k hl (hcons τ' hc) hG hG'
    exact hne (this ▸ hc)
  have hbox : ∀ (b : Nat) (T : TypeId) (cs : List AV), s.bx[b]? = some (some (T, cs)) → m.B b < w.heap.size ∧ w'.heap[m.B b]? = w.heap[m.B b]? := by
    intro b T cs hb
    obtain ⟨_, vs, hh, _⟩ := h.boxes b T cs hb
    have hlt : m.B b < w.heap.size := (Array.getElem?_eq_some_iff.1 hh).1
    exact ⟨hlt, hrow _ hlt (fun τ hc hG => h.sep τ _ b T cs (hcons τ hc) hG hb rfl)⟩
  have hto : (vw w0 Nin s m w).To (vw w0 Nin s' m' w') := by
    have hN : ∀ b, (vw w0 Nin s m w).N b → (vw w0 Nin s' m' w').N b ∧ w'.heap[b]? = w.heap[b]? := by
      rintro b ⟨h1, h2, h3, h4⟩
      refine ⟨⟨Nat.lt_of_lt_of_le h1 hg.size, h2, fun τ hl hG => ?_, fun i T cs hb => ?_⟩, hrow b h1 (fun τ hc => h3 τ (hcons τ hc))⟩
      · by_cases hu : m.U τ
        · exact h3 τ (hlive τ hu hl).1 ((hold τ hu).1 ▸ hG)
        · obtain ⟨_, _, h5⟩ := hnew τ b hu hl hG
          rcases h5 with h5 | h5
          · omega
          · cases hc : cons with
            | none => rw [hc] at h5; cases h5
            | some τ' => rw [hc] at h5; exact h3 τ' (hcons τ' hc) h5
      · rw [hB]; exact h4 i T cs (by rw [← hbx]; exact hb)
    refine ⟨rfl, hN, ?_, ?_, ?_⟩
    · rintro b hi (hb | ⟨τ, hl, hG, hE⟩)
      · exact ⟨.inl (hN b hb).1, fun o _ => cell_of_heap (hN b hb).2⟩
      · have hl' : hasBit s.live τ = true := hl
        have hG' : m.G τ = some b := hG
        have hE' : hi ≤ m.E τ := hE
        by_cases hc : cons = some τ
        · obtain ⟨hp1, hp2⟩ := hpre τ b hc hG'
          refine ⟨?_, fun o ho => hp1 o (by omega)⟩
          by_cases hex : ∃ τ', ¬ m.U τ' ∧ hasBit s'.live τ' = true ∧ m'.G τ' = some b
          · obtain ⟨τ', h1, h2, h3⟩ := hex
            exact .inr ⟨τ', h2, h3, Nat.le_trans hE' (hp2 τ' h1 h2 h3)⟩
          · refine .inl ⟨Nat.lt_of_lt_of_le (h.toks τ b hl' hG').2 hg.size, fun hlt => ?_, fun τ' hl'' hG'' => ?_, fun i T cs hb => ?_⟩
            · have := (h.toks τ b hl' hG').1; omega
            · by_cases hu : m.U τ'
              · obtain ⟨h1, h2⟩ := hlive τ' hu hl''
                have := h.inj τ τ' b hl' h1 hG' ((hold τ' hu).1 ▸ hG'')
                exact h2 (this ▸ hc)
              · exact hex ⟨τ', hu, hl'', hG''⟩
            · rw [hB]; exact h.sep τ b i T cs hl' hG' (by rw [← hbx]; exact hb)
        · have hu := h.liveU τ hl'
          refine ⟨.inr ⟨τ, hkeep τ hl' hc, ?_, ?_⟩, fun o _ => cell_of_heap (hstand τ b hl' hc hG')⟩
          · exact (hold τ hu).1.trans hG'
          · show hi ≤ m'.E τ; rw [(hold τ hu).2]; exact hE'
    · intro τ hu
      refine ⟨hU τ hu, fun hl => ?_⟩
      obtain ⟨h1, h2⟩ := hlive τ hu hl
      exact ⟨h1, (hold τ hu).1, (hold τ hu).2, fun k hk => hstand τ k h1 h2 hk⟩
    · rintro b ⟨T, cs, hb⟩
      exact ⟨⟨T, cs, by rw [hbx]; exact hb⟩, by show m'.B b = m.B b; rw [hB]⟩
  refine ⟨hto, h.next ht hto hbelow ?_ ?_ ?_ ?_ ?_ uD ?_ liveU hgh⟩
  · intro τ k hl hG
    by_cases hu : m.U τ
    · have := h.toks τ k (hlive τ hu hl).1 ((hold τ hu).1 ▸ hG)
      exact ⟨this.1, Nat.lt_of_lt_of_le this.2 hg.size⟩
    · obtain ⟨h1, h2, _⟩ := hnew τ k hu hl hG
      exact ⟨h1, h2⟩
  · have mixed : ∀ τ τ' k, m.U τ → ¬ m.U τ' → hasBit s'.live τ = true → hasBit s'.live τ' = true → m'.G τ = some k → m'.G τ' = some k → False := by
      intro τ τ' k hu hu' hl hl' hG hG'
      obtain ⟨h1, h2⟩ := hlive τ hu hl
      have hGo := (hold τ hu).1 ▸ hG
      obtain ⟨_, _, h3⟩ := hnew τ' k hu' hl' hG'
      rcases h3 with h3 | h3
      · have := (h.toks τ k h1 hGo).2; omega
      · cases hc : cons with
        | none => rw [hc] at h3; cases h3
        | some τ0 =>
          rw [hc] at h3
          have := h.inj τ τ0 k h1 (hcons τ0 hc) hGo h3
          exact h2 (this ▸ hc)
    intro τ τ' k hl hl' hG hG'
    by_cases hu : m.U τ
    · by_cases hu' : m.U τ'
      · exact h.inj τ τ' k (hlive τ hu hl).1 (hlive τ' hu' hl').1 ((hold τ hu).1 ▸ hG) ((hold τ' hu').1 ▸ hG')
      · exact (mixed τ τ' k hu hu' hl hl' hG hG').elim
    · by_cases hu' : m.U τ'
      · exact (mixed τ' τ k hu' hu hl' hl hG' hG).elim
      · exact hinj τ τ' k hu hu' hl hl' hG hG'
  · intro b T cs hb
    rw [hbx] at hb
    obtain ⟨h1, vs, h2, h3, h4⟩ := h.boxes b T cs hb
    rw [hB]
    exact ⟨h1, vs, (hbox b T cs hb).2.trans h2, all2_imp (fun _ _ => hto.v1) _ _ h3, h4⟩
  · intro b T cs b' T' cs' hb hb' he
    rw [hbx] at hb hb'
    rw [hB] at he
    exact h.binj b T cs b' T' cs' hb hb' he
  · intro τ k b T cs hl hG hb
    rw [hbx] at hb
    rw [hB]
    by_cases hu : m.U τ
    · exact h.sep τ k b T cs (hlive τ hu hl).1 ((hold τ hu).1 ▸ hG) hb
    · obtain ⟨_, _, h3⟩ := hnew τ k hu hl hG
      rcases h3 with h3 | h3
      · have := (hbox b T cs hb).1; omega
      · cases hc : cons with
        | none => rw [hc] at h3; cases h3
        | some τ0 => rw [hc] at h3; exact h.sep τ0 k b T cs (hcons τ0 hc) h3 hb
  · intro b T cs hb
    rw [hbx] at hb
    exact hD b (h.bD b T cs hb)
/-- What is owned may be read. -/
theorem own_sl {q : Vw} {τ : Nat} {T : TypeId} {e : Ty} {xs : List e.den} {v : Value} (ho : q.Own τ T e xs v) (hl : q.live τ) : q.Sl e xs v := by
  obtain ⟨inner, hown, hb, hr, hE⟩ := ho
  rcases hown.2 with ⟨rfl, hn⟩ | ⟨g, cap, cur, rfl, hbg, hg, hnc, hcm, hcs, htake⟩
  · have hx : xs = [] := List.eq_nil_of_length_eq_zero hn
    subst hx
    exact ⟨none, 0, inner, rfl, Nat.le_refl _, hr, .inl hr⟩
  · refine ⟨some ⟨g, 0, none⟩, cap, inner, rfl, hnc, hr, .inr ⟨_, rfl, .inr ⟨τ, hl, hb.symm, ?_⟩, hown.cells (g := g) rfl⟩⟩
    show 0 + inner.length ≤ q.E τ
    rw [hE]; omega
end
theorem bit_add {n i j : Nat} : hasBit (addBit n i) j = (hasBit n j || decide (i = j)) := by
  unfold hasBit addBit
  rw [Nat.testBit_or, Nat.testBit_two_pow]
theorem bit_del {n i j : Nat} (h : hasBit n i = true) : hasBit (delBit n i) j = (hasBit n j && !decide (i = j)) := by
  unfold hasBit delBit at *
  rw [Nat.testBit_xor, Nat.testBit_two_pow]
  by_cases hij : i = j
  · subst hij; simp [h]
  · simp [hij]
section
variable {P : Program}
theorem cap_le {n c bytes : Nat} (h : (n + c) * bytes ≤ 140737488355328) (hb : 0 < bytes) : n + c ≤ 140737488355328 := by
  have := Nat.le_mul_of_pos_right (n + c) hb
  omega
/-- append, of whatever is appended, onto what is owned. -/
theorem append_owned {w : World} (base : Nat) (t tx ty et : TypeId) (i : TypeInfo) (z : Value) (ht : P.underlying t = some (.slice et)) (hi : P.info? et = some i) (hz : i.zero = some z) (hzs : z.cells.size = i.size) (hs0 : 0 < i.size) (hb0 : 0 < i.bytes)
    (v : Value) (n : Nat) (xs : List Value) (hown : w.ownsRow base et i.size v n xs) (x : Value) (c : Nat) (news : List Value) (hs : Src P i.size tx x c news w)
    (hroom : (n + c) * i.bytes ≤ 140737488355328) (hbase : base ≤ w.heap.size) :
    ∃ v' w', (Builtin.append_ #[t, tx] ty #[v, x]).run P w = .ok v' w' ∧ w'.ownsRow base et i.size v' (n + c) (xs ++ news) ∧ w.grownBy w' v.ownBlock ∧
      (v'.ownBlock = v.ownBlock ∨ ∃ b, v'.ownBlock = some b ∧ w.heap.size ≤ b) ∧ ∀ k, v.ownBlock = some k → ∀ o, o < n * i.size → w'.cell? ⟨k, o, none⟩ = w.cell? ⟨k, o, none⟩ := by
  have hmax := cap_le hroom hb0
  have h63 : ((n + c : Nat) : Int) ≤ 9223372036854775807 := by omega
  have hml : n + c ≤ maxLen := by simp only [maxLen]; omega
  have hlen : (xs ++ news).length = (n + c) * i.size := by rw [List.length_append, hown.1, hs.newsLen, Nat.add_mul]
  have grown : ∀ (old : Nat) (row : Option Nat), old < n + c →
      (w.drew.alloc (.cells ((xs ++ news).toArray ++ Builtin.zeroCells z.cells (grownCap w (n + c) old et - (n + c))) et)).ownsRow base et i.size
        (.slice (some ⟨w.heap.size, 0, none⟩) (n + c) (grownCap w (n + c) old et)) (n + c) (xs ++ news) ∧
      w.grownBy (w.drew.alloc (.cells ((xs ++ news).toArray ++ Builtin.zeroCells z.cells (grownCap w (n + c) old et - (n + c))) et)) row := by
    intro old row ho
    have hge := grownCap_ge w (n + c) old et
    refine ⟨⟨hlen, .inr ⟨w.heap.size, _, _, rfl, hbase, heap_alloc_new w.drew _, hge, grownCap_le_maxLen w (n + c) old et hml, ?_, ?_⟩⟩, ⟨rfl, rfl, rfl, by simp, fun k hk _ => heap_alloc_old w.drew _ k hk⟩⟩
    · simp only [Array.size_append, List.size_toArray, size_zeroCells, hzs, hlen, ← Nat.add_mul]
      congr 1
      omega
    · rw [Array.toList_append, ← hlen]
      exact List.take_left
  rcases hown.2 with ⟨rfl, rfl⟩ | ⟨g, cap, cur, rfl, hbg, hg, hnc, hcm, hcs, htake⟩
  · have hx : xs = [] := List.eq_nil_of_length_eq_zero (by simpa using hown.1)
    subst hx
    by_cases hc : c = 0
    · subst hc
      have hn : news = [] := List.eq_nil_of_length_eq_zero (by simpa using hs.newsLen)
      subst hn
      exact ⟨_, _, run_append_nothing (P := P) w t tx ty et i ht hi none 0 0 (Nat.le_refl _) x hs, World.ownsRow_nil w base et i.size, ⟨rfl, rfl, rfl, Nat.le_refl _, fun _ _ _ => rfl⟩, .inl rfl, fun k hk => by simp [Value.ownBlock] at hk⟩
    · have hr := run_append_grow_src (P := P) w t tx ty et i z ht hi hz none 0 0 [] (run_firstCells_none w.drew i.size 0 0 0) x c news hs (by omega) h63 (growslice_fits (by omega) hroom)
      obtain ⟨h1, h2⟩ := grown 0 (Value.ownBlock (.slice none 0 0)) (by omega)
      exact ⟨_, _, hr, h1, h2, .inr ⟨w.heap.size, rfl, Nat.le_refl _⟩, fun k hk => by simp [Value.ownBlock] at hk⟩
  · have hglt : g < w.heap.size := (Array.getElem?_eq_some_iff.1 hg).1
    by_cases hroom' : n + c ≤ cap
    · have hfit : n * i.size + news.length ≤ cur.size := by rw [hs.newsLen, hcs, ← Nat.add_mul]; exact Nat.mul_le_mul_right _ hroom'
      have hst := run_storeCells_at P g (n * i.size) et news 0 cur w hg (by simpa using hfit) hs.one
      simp only [Nat.add_zero] at hst
      refine ⟨.slice (some ⟨g, 0, none⟩) (n + c) cap, w.setRow g (cur.toList.take (n * i.size) ++ news ++ cur.toList.drop (n * i.size + news.length)).toArray, ?_, ⟨hlen, .inr ⟨g, cap, _, rfl, hbg, setRow_heap w g cur _ et _ hg, hroom', hcm, ?_, ?_⟩⟩, ⟨rfl, rfl, rfl, ?_, fun k _ hk => setRow_other w g k _ (fun e => hk (by simp [Value.ownBlock, e]))⟩, .inl rfl, ?_⟩
      · rcases hs.kind with ⟨e', hk⟩ | hk <;> simp [Builtin.append_, run_underlying ht, run_underlying hk, sizeOf, typeInfo, hi, hs.len, hroom', hs.cells, Addr.add_lit, hst]
      · simp only [List.size_toArray, List.length_append, List.length_take, List.length_drop, Array.length_toList]
        omega
      · rw [htake, ← hlen]
        exact List.take_left
      · simp [World.setRow]
      · intro k hk o ho
        have hgk : g = k := by simpa [Value.ownBlock] using hk
        subst hgk
        have hb := setRow_heap w g cur (cur.toList.take (n * i.size) ++ news ++ cur.toList.drop (n * i.size + news.length)).toArray et _ hg
        have hle : n * i.size ≤ cur.size := by omega
        simp only [World.cell?, hb, hg]
        simp only [Option.isSome_none, Bool.false_eq_true, if_false, List.getElem?_toArray]
        rw [List.append_assoc, List.getElem?_append_left (by rw [List.length_take, Array.length_toList]; omega), List.getElem?_take, if_pos ho]
        simp
    · have holds : ∀ j u, xs[j]? = some u → w.cell? ((⟨g, 0, none⟩ : Addr).add j) = some u := hown.cells (g := g) rfl
      have hf := run_firstCells_some (P := P) w.drew i.size n ⟨g, 0, none⟩ n cap xs hown.1 (by simpa using holds)
      have hr := run_append_grow_src (P := P) w t tx ty et i z ht hi hz (some ⟨g, 0, none⟩) n cap xs hf x c news hs (by omega) h63 (growslice_fits (by omega) hroom)
      obtain ⟨h1, h2⟩ := grown cap (Value.ownBlock (.slice (some ⟨g, 0, none⟩) n cap)) (by omega)
      exact ⟨_, _, hr, h1, h2, .inr ⟨w.heap.size, rfl, Nat.le_refl _⟩, fun k hk o _ => cell_of_heap (heap_alloc_old w.drew _ k (by
        have hgk : g = k := by simpa [Value.ownBlock] using hk
        subst hgk; exact hglt))⟩
end
end Go.Eng
