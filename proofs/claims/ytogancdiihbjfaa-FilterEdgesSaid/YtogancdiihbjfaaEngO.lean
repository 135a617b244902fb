/- ENGINE, part O: on what an operation hangs, and what it turns. -/
import Derived.Test.YtogancdiihbjfaaEngN
namespace Go.Eng
open Go Go.RowKit
section
variable {R : Type} {Γ : Ctx} {n : Nat} {o : Oper} {s : St} {K : St → Option R}
theorem fin1_nat (d : Option Tmp) (v : Option Value) : fin1 s d v K = (fin1 s d v some).bind K := by
  unfold fin1; repeat' split
  all_goals rfl
theorem binA_nat (P : Program) (op : BinOp) (t : TypeId) (x y : AV) (d : Option Tmp) : binA P op t x y s d K = (binA P op t x y s d some).bind K := by
  unfold binA binPlain aggEq
  split <;> (repeat' split) <;> first | rfl | exact fin1_nat _ _ | (rw [Option.bind_assoc]; rfl)
theorem cutA_nat {n : Nat} {lo hi : Option Int} {k : Nat → Nat → St} : cutA n lo hi (fun l h => K (k l h)) = (cutA n lo hi (fun l h => some (k l h))).bind K := by
  unfold cutA; repeat' split
  all_goals rfl
theorem sliceA_nat (x : AV) (lo hi : Option Int) (d : Option Tmp) : sliceA x lo hi s d K = (sliceA x lo hi s d some).bind K := by
  unfold sliceA; split <;> first | rfl | exact cutA_nat
theorem mmA_nat (mx : Bool) (x y : AV) (d : Option Tmp) : mmA mx x y s d K = (mmA mx x y s d some).bind K := by
  unfold mmA; repeat' split
  all_goals first | rfl | (rw [Option.bind_assoc]; rfl)
theorem aOp_nat : aOp Γ n o s K = (aOp Γ n o s some).bind K := by
  cases hop : o.op with
  | binOp op t x y yt => simp only [aOp, hop]; exact binA_nat _ _ _ _ _ _
  | unOp op t x => simp only [aOp, hop]; repeat' split
                   all_goals first | rfl | exact fin1_nat _ _
  | convert a b x => simp only [aOp, hop]; repeat' split
                     all_goals first | rfl | exact fin1_nat _ _ | (rw [Option.bind_assoc]; rfl)
  | slice t x lo hi mx => simp only [aOp, hop]; repeat' split
                          all_goals first | rfl | exact sliceA_nat _ _ _ _ | exact cutA_nat
  | indexAddr t x ix => simp only [aOp, hop, indexA]; repeat' split
                        all_goals rfl
  | pick c x y =>
    simp only [aOp, hop]
    split
    · rename_i b _; cases b <;> rfl
    · rfl
  | call c =>
    simp only [aOp, hop, callA, appendA]
    repeat' split
    all_goals first | rfl | exact mmA_nat _ _ _ _ | (rw [Option.bind_assoc]; rfl)
  | _ => simp only [aOp, hop] <;> (repeat' split) <;> rfl
end
section
variable {Γ : Ctx} {n : Nat} {o : Oper} {s s1 : St}
theorem fin1_eff {d : Option Tmp} {v : Option Value} (h : fin1 s d v some = some s1) : ∃ z, s1 = s.put d z ∧ ∀ s' : St, fin1 s' d v some = some (s'.put d z) := by
  unfold fin1 at h ⊢
  split at h
  · split at h
    · rename_i hx
      exact ⟨_, (Option.some.inj h).symm, fun s' => by simp only [hx]⟩
    · cases h
  · cases h
theorem binA_eff {P : Program} {op : BinOp} {t : TypeId} {x y : AV} {d : Option Tmp} (h : binA P op t x y s d some = some s1) : ∃ z, s1 = s.put d z ∧ ∀ s' : St, binA P op t x y s' d some = some (s'.put d z) := by
  have plain : ∀ op, binPlain P op t x y s d some = some s1 → ∃ z, s1 = s.put d z ∧ ∀ s' : St, binPlain P op t x y s' d some = some (s'.put d z) := by
    intro op h
    unfold binPlain at h ⊢
    split at h
    · rename_i a b ha hb
      split at h
      · rename_i hc
        obtain ⟨z, h1, h2⟩ := fin1_eff h
        exact ⟨z, h1, fun s' => by simp only [ha, hb, if_pos hc]; exact h2 s'⟩
      · cases h
    · cases h
  have agg : ∀ neg xs ys, aggEq P neg t xs ys s d some = some s1 → ∃ z, s1 = s.put d z ∧ ∀ s' : St, aggEq P neg t xs ys s' d some = some (s'.put d z) := by
    intro neg xs ys h
    unfold aggEq at h ⊢
    split at h
    · rename_i ks hk
      split at h
      · rename_i b hb
        split at h
        · rename_i hc
          exact ⟨_, (Option.some.inj h).symm, fun s' => by simp only [hk, hb, if_pos hc]⟩
        · cases h
      · cases h
    · cases h
  have flt : ∀ {k j : FloatKind} {res : Option Nat}, (if Ty.fkNo k == Ty.fkNo j then res.bind fun r => some (s.put d (.v (.flt k) r)) else none) = some s1 → ∃ z, s1 = s.put d z ∧ ∀ s' : St, (if Ty.fkNo k == Ty.fkNo j then res.bind fun r => some (s'.put d (.v (.flt k) r)) else none) = some (s'.put d z) := by
    intro k j res h
    split at h
    · rename_i hk
      obtain ⟨n, hn, h2⟩ := obind_some h
      exact ⟨_, (Option.some.inj h2).symm, fun s' => by rw [if_pos hk, hn]; rfl⟩
    · cases h
  unfold binA at h ⊢
  split at h
  · exact flt h
  · exact flt h
  · exact flt h
  · exact flt h
  · split at h
    · split at h
      · cases h
      · rename_i h1 h2; exact ⟨_, (Option.some.inj h).symm, fun s' => by simp only [if_pos h1, if_neg h2]⟩
    · cases h
  · split at h
    · split at h
      · cases h
      · rename_i h1 h2; exact ⟨_, (Option.some.inj h).symm, fun s' => by simp only [if_pos h1, if_neg h2]⟩
    · cases h
  · split at h
    · cases h
    · rename_i h2; exact ⟨_, (Option.some.inj h).symm, fun s' => by simp only [if_neg h2]⟩
  · split at h
    · cases h
    · rename_i h2; exact ⟨_, (Option.some.inj h).symm, fun s' => by simp only [if_neg h2]⟩
  · split at h
    · cases h
    · rename_i h2; exact ⟨_, (Option.some.inj h).symm, fun s' => by simp only [if_neg h2]⟩
  · exact agg _ _ _ h
  · exact agg _ _ _ h
  · cases h
  · cases h
  · cases h
  · cases h
  · exact plain _ h
theorem cutA_eff {n : Nat} {lo hi : Option Int} {k : St → Nat → Nat → St} (h : cutA n lo hi (fun l h => some (k s l h)) = some s1) : ∃ l h', s1 = k s l h' ∧ ∀ s' : St, cutA n lo hi (fun l h => some (k s' l h)) = some (k s' l h') := by
  unfold cutA at h ⊢
  split at h
  · exact ⟨_, _, (Option.some.inj h).symm, fun s' => rfl⟩
  · split at h
    · rename_i hc; exact ⟨_, _, (Option.some.inj h).symm, fun s' => by simp only [if_pos hc]⟩
    · cases h
  · split at h
    · rename_i hc; exact ⟨_, _, (Option.some.inj h).symm, fun s' => by simp only [if_pos hc]⟩
    · cases h
  · split at h
    · rename_i hc; exact ⟨_, _, (Option.some.inj h).symm, fun s' => by simp only [if_pos hc]⟩
    · cases h
theorem sliceA_eff {x : AV} {lo hi : Option Int} {d : Option Tmp} (h : sliceA x lo hi s d some = some s1) : ∃ z, s1 = s.put d z ∧ ∀ s' : St, sliceA x lo hi s' d some = some (s'.put d z) := by
  unfold sliceA at h ⊢
  split at h
  · rename_i b
    obtain ⟨l, h', h1, h2⟩ := cutA_eff (k := fun s l h => s.put d (.v .str (b.extract l h))) h
    exact ⟨_, h1, h2⟩
  · rename_i e xs
    obtain ⟨l, h', h1, h2⟩ := cutA_eff (k := fun s l h => s.put d (.v (.sl e) ((List.take h xs).drop l))) h
    exact ⟨_, h1, h2⟩
  · rename_i e xs
    obtain ⟨l, h', h1, h2⟩ := cutA_eff (k := fun s l h => s.put d (.al e ((xs.take h).drop l))) h
    exact ⟨_, h1, h2⟩
  · rename_i _ _ e xs
    obtain ⟨l, h', h1, h2⟩ := cutA_eff (k := fun s l h => s.put d (.al e ((xs.take h).drop l))) h
    exact ⟨_, h1, h2⟩
  · cases h
theorem mmA_eff {mx : Bool} {x y : AV} {d : Option Tmp} (h : mmA mx x y s d some = some s1) : ∃ z, s1 = s.put d z ∧ ∀ s' : St, mmA mx x y s' d some = some (s'.put d z) := by
  unfold mmA at h ⊢
  split at h
  · split at h
    · split at h
      · rename_i hk
        obtain ⟨p, hp, h2⟩ := obind_some h
        exact ⟨_, (Option.some.inj h2).symm, fun s' => by rw [if_pos hk, hp]; rfl⟩
      · cases h
    · cases h
  · split at h
    · rename_i z hz
      exact ⟨_, (Option.some.inj h).symm, fun _ => rfl⟩
    · cases h
theorem indexA_eff {P : Program} {t : TypeId} {x ix : AV} {d : Option Tmp} (h : indexA P t x ix s d some = some s1) : ∃ z, s1 = s.put d z ∧ ∀ s' : St, indexA P t x ix s' d some = some (s'.put d z) := by
  unfold indexA at h ⊢
  split at h
  · rename_i h1 h2
    split at h
    · rename_i h3
      split at h
      · rename_i h4
        exact ⟨_, (Option.some.inj h).symm, fun s' => by simp only [h1, h2, if_pos h3]; rw [if_pos h4]⟩
      · cases h
    · cases h
  · cases h
theorem bitsL_or : ∀ (l : List (Option TypeId × Ty)) (id m : Nat), bitsL id m l = m ||| bitsL id 0 l
  | [], _, m => by simp [bitsL]
  | (o, t) :: l, id, m => by
    simp only [bitsL]
    split
    · rw [bitsL_or l (id + 1) (addBit m id), bitsL_or l (id + 1) (addBit 0 id)]
      simp [addBit, Nat.or_assoc]
    · exact bitsL_or l (id + 1) m
theorem bits_or (sh : Sh) (id m : Nat) : sh.bits id m = m ||| sh.bits id 0 := by
  cases sh with
  | one o t => simp only [Sh.bits]; split <;> simp [addBit]
  | tup l => exact bitsL_or l id m
/-- The bits that an operation sets, of those that make slices and use up none. -/
def maskOf (Γ : Ctx) (n : Nat) (o : Oper) : Nat := match o.op with
  | .makeSlice .. => 2 ^ (8 * n)
  | .buildSlice .. => 2 ^ (8 * n)
  | .call c => match c.callee with
    | .value (.func f) => (Γ.sh f).bits (8 * n) 0
    | _ => 0
  | _ => 0
theorem callA_eff {id : Nat} {f : FuncId} {args : List AV} {ts : List TypeId} {d : Option Tmp} (h : callA Γ id f args ts s d some = some s1) :
    ∃ z, s1 = St.put { s with live := s.live ||| (Γ.sh f).bits id 0 } d z ∧ ∀ s' : St, callA Γ id f args ts s' d some = some (St.put { s' with live := s'.live ||| (Γ.sh f).bits id 0 } d z) := by
  unfold callA at h ⊢
  split at h
  · rename_i vs h1
    split at h
    · rename_i h2
      obtain ⟨r, h3, h4⟩ := bind_some h
      refine ⟨mkAV id (Γ.sh f) r, ?_, fun s' => ?_⟩
      · rw [← bits_or]; exact (Option.some.inj h4).symm
      · rw [← bits_or]; simp only [h1, if_pos h2, h3]; rfl
    · cases h
  · cases h
def convF (P : Program) (src dst : TypeId) (X : AV) : Option AV := match X with
  | .v (.flt k) b => (match P.underlying dst with
    | some (.int j) => (match P.underlying src with
      | some (.float _) => (fToI k b j).map fun n => .v (.int j) n
      | _ => none)
    | _ => if scalarV (.float k b) then (evS P (convert src dst (.float k b))).bind ofV1 else none)
  | .v (.sl (.int .u8)) xs => (match P.underlying src, P.underlying dst with
    | some (.slice et), some .string => (match P.underlying et with | some (.int .u8) => some (.v .str (strOf xs)) | _ => none)
    | _, _ => none)
  | .al (.int .u8) xs => (match P.underlying src, P.underlying dst with
    | some (.slice et), some .string => (match P.underlying et with | some (.int .u8) => some (.v .str (strOf xs)) | _ => none)
    | _, _ => none)
  | .own _ _ (.int .u8) xs => (match P.underlying src, P.underlying dst with
    | some (.slice et), some .string => (match P.underlying et with | some (.int .u8) => some (.v .str (strOf xs)) | _ => none)
    | _, _ => none)
  | .nilS => (match P.underlying src, P.underlying dst with
    | some (.slice et), some .string => (match P.underlying et with | some (.int .u8) => some (.v .str ByteArray.empty) | _ => none)
    | _, _ => none)
  | x => match cellV x with
    | some a => if scalarV a then (evS P (convert src dst a)).bind ofV1 else none
    | none => none
theorem fin1_map (d : Option Tmp) (v : Option Value) : fin1 s d v some = (v.bind ofV1).map (s.put d) := by
  unfold fin1
  cases v with
  | none => rfl
  | some v => simp only [Option.bind_some]; split <;> simp_all
theorem conv_map {src dst : TypeId} {x : Operand} (hop : o.op = .convert src dst x) : aOp Γ n o s some = (convF Γ.P src dst (s.ev x)).map (s.put o.dst) := by
  simp only [aOp, hop, convF, fin1_map]
  generalize s.ev x = X
  generalize Γ.P.underlying src = u1
  generalize Γ.P.underlying dst = u2
  split <;> (repeat' split) <;> simp_all
  · rename_i h1 h2 h3
    obtain ⟨rfl, rfl⟩ := h3
    subst h2
    cases fToI _ _ _ <;> rfl
/-- An operation that hangs on its operands alone (a load: on the boxes too), and turns its own temporary, and sets bits of its own. -/
theorem free_eff (hc : clsOf Γ o ≠ .other) (hw : clsOf Γ o ≠ .wr) (ha_ : clsOf Γ o ≠ .app) (h : aOp Γ n o s some = some s1) : ∃ z, s1 = St.put { s with live := s.live ||| maskOf Γ n o } o.dst z ∧
    ∀ s' : St, (∀ x ∈ o.op.operands, s'.ev x = s.ev x) → (∀ T a, o.op = .load T a → s'.bx = s.bx) → aOp Γ n o s' some = some (St.put { s' with live := s'.live ||| maskOf Γ n o } o.dst z) := by
  have zero : maskOf Γ n o = 0 → (∃ z, s1 = s.put o.dst z ∧ ∀ s' : St, (∀ x ∈ o.op.operands, s'.ev x = s.ev x) → (∀ T a, o.op = .load T a → s'.bx = s.bx) → aOp Γ n o s' some = some (s'.put o.dst z)) →
      ∃ z, s1 = St.put { s with live := s.live ||| maskOf Γ n o } o.dst z ∧ ∀ s' : St, (∀ x ∈ o.op.operands, s'.ev x = s.ev x) → (∀ T a, o.op = .load T a → s'.bx = s.bx) → aOp Γ n o s' some = some (St.put { s' with live := s'.live ||| maskOf Γ n o } o.dst z) := by
    intro hm hz
    rw [hm]
    simpa using hz
  obtain ⟨op, hop⟩ : ∃ op, o.op = op := ⟨_, rfl⟩
  cases op with
  | move x =>
    simp only [aOp, hop] at h
    exact zero (by simp [maskOf, hop]) ⟨_, (Option.some.inj h).symm, fun s' he _ => by simp only [aOp, hop]; rw [he x (by simp [hop, Op.operands])]⟩
  | assign x =>
    simp only [aOp, hop] at h
    exact zero (by simp [maskOf, hop]) ⟨_, (Option.some.inj h).symm, fun s' he _ => by simp only [aOp, hop]; rw [he x (by simp [hop, Op.operands])]⟩
  | pick c x y =>
    simp only [aOp, hop] at h
    split at h
    · rename_i b hb
      refine zero (by simp [maskOf, hop]) ?_
      cases b with
      | true => exact ⟨_, (Option.some.inj h).symm, fun s' he _ => by simp only [aOp, hop]; rw [he c (by simp [hop, Op.operands]), hb, he x (by simp [hop, Op.operands])]; rfl⟩
      | false => exact ⟨_, (Option.some.inj h).symm, fun s' he _ => by simp only [aOp, hop]; rw [he c (by simp [hop, Op.operands]), hb, he y (by simp [hop, Op.operands])]; rfl⟩
    · cases h
  | load T x =>
    simp only [aOp, hop] at h
    refine zero (by simp [maskOf, hop]) ?_
    split at h
    · rename_i b off hb
      split at h
      · rename_i T' cs hbx
        split at h
        · rename_i y hy
          exact ⟨_, (Option.some.inj h).symm, fun s' he hbx' => by simp only [aOp, hop]; rw [he x (by simp [hop, Op.operands]), hb, hbx' T x hop]; simp only [hbx, hy]⟩
        · cases h
      · cases h
    · rename_i cs hb
      split at h
      · rename_i y hy
        exact ⟨_, (Option.some.inj h).symm, fun s' he _ => by simp only [aOp, hop]; rw [he x (by simp [hop, Op.operands]), hb]; simp only [hy]⟩
      · cases h
    · rename_i hb
      split at h
      · rename_i y hy
        exact ⟨_, (Option.some.inj h).symm, fun s' he _ => by simp only [aOp, hop]; rw [he x (by simp [hop, Op.operands]), hb]; simp only [hy]⟩
      · cases h
    · cases h
  | nilCheck x =>
    simp only [aOp, hop] at h
    refine zero (by simp [maskOf, hop]) ?_
    split at h
    · rename_i b off hb
      exact ⟨_, (Option.some.inj h).symm, fun s' he _ => by simp only [aOp, hop]; rw [he x (by simp [hop, Op.operands]), hb]⟩
    · rename_i cs hb
      exact ⟨_, (Option.some.inj h).symm, fun s' he _ => by simp only [aOp, hop]; rw [he x (by simp [hop, Op.operands]), hb]⟩
    · rename_i hb
      exact ⟨_, (Option.some.inj h).symm, fun s' he _ => by simp only [aOp, hop]; rw [he x (by simp [hop, Op.operands]), hb]⟩
    · cases h
  | fieldAddr S x f =>
    simp only [aOp, hop] at h
    refine zero (by simp [maskOf, hop]) ?_
    split at h
    · rename_i hb hf
      exact ⟨_, (Option.some.inj h).symm, fun s' he _ => by simp only [aOp, hop]; rw [he x (by simp [hop, Op.operands]), hb, hf]⟩
    · rename_i hb hf
      exact ⟨_, (Option.some.inj h).symm, fun s' he _ => by simp only [aOp, hop]; rw [he x (by simp [hop, Op.operands]), hb, hf]⟩
    · rename_i hb hf
      exact ⟨_, (Option.some.inj h).symm, fun s' he _ => by simp only [aOp, hop]; rw [he x (by simp [hop, Op.operands]), hb, hf]⟩
    · cases h
  | field S x f =>
    simp only [aOp, hop] at h
    refine zero (by simp [maskOf, hop]) ?_
    split at h
    · rename_i hb hf
      split at h
      · rename_i hy
        exact ⟨_, (Option.some.inj h).symm, fun s' he _ => by simp only [aOp, hop]; rw [he x (by simp [hop, Op.operands]), hb, hf]; simp only [hy]⟩
      · cases h
    · cases h
  | indexAddr t x ix =>
    simp only [aOp, hop] at h
    obtain ⟨z, h1, h2⟩ := indexA_eff h
    exact zero (by simp [maskOf, hop]) ⟨z, h1, fun s' he _ => by simp only [aOp, hop]; rw [he x (by simp [hop, Op.operands]), he ix (by simp [hop, Op.operands])]; exact h2 s'⟩
  | index t x ix =>
    simp only [aOp, hop] at h
    refine zero (by simp [maskOf, hop]) ?_
    split at h
    · rename_i hu hb hix
      split at h
      · rename_i hc
        exact ⟨_, (Option.some.inj h).symm, fun s' he _ => by simp only [aOp, hop]; rw [he x (by simp [hop, Op.operands]), he ix (by simp [hop, Op.operands]), hu, hb, hix]; simp only; rw [if_pos hc]⟩
      · cases h
    · cases h
  | slice t x lo hi mx =>
    simp only [aOp, hop] at h
    have hlo : ∀ s' : St, (∀ x ∈ o.op.operands, s'.ev x = s.ev x) → lo.map s'.ev = lo.map s.ev := fun s' he => by
      cases lo with
      | none => rfl
      | some l => exact congrArg some (he l (by simp [hop, Op.operands]))
    have hhi : ∀ s' : St, (∀ x ∈ o.op.operands, s'.ev x = s.ev x) → hi.map s'.ev = hi.map s.ev := fun s' he => by
      cases hi with
      | none => rfl
      | some l => exact congrArg some (he l (by simp [hop, Op.operands]))
    refine zero (by simp [maskOf, hop]) ?_
    split at h
    · rename_i l h' hl hh hu
      split at h
      · rename_i b hb
        obtain ⟨z, h1, h2⟩ := sliceA_eff h
        exact ⟨z, h1, fun s' he _ => by simp only [aOp, hop]; rw [he x (by simp [hop, Op.operands]), hlo s' he, hhi s' he, hl, hh, hu, hb]; exact h2 s'⟩
      · cases h
    · rename_i l h' et hl hh hu
      split at h
      · rename_i e ys hb
        split at h
        · rename_i hc
          obtain ⟨z, h1, h2⟩ := sliceA_eff h
          exact ⟨z, h1, fun s' he _ => by simp only [aOp, hop]; rw [he x (by simp [hop, Op.operands]), hlo s' he, hhi s' he, hl, hh, hu]; simp only [hb, if_pos hc]; exact h2 s'⟩
        · cases h
      · rename_i hb
        split at h
        · rename_i hc
          obtain ⟨l1, h1', h1, h2⟩ := cutA_eff (k := fun s _ _ => s.put o.dst .nilS) h
          exact ⟨_, h1, fun s' he _ => by simp only [aOp, hop]; rw [he x (by simp [hop, Op.operands]), hlo s' he, hhi s' he, hl, hh, hu]; simp only [hb, if_pos hc]; exact h2 s'⟩
        · cases h
    · cases h
  | makeSlice t l c =>
    simp only [aOp, hop] at h
    split at h
    · rename_i hel h1 h2
      split at h
      · rename_i z hz
        split at h
        · rename_i x hx
          split at h
          · rename_i hc
            refine ⟨_, by simp only [maskOf, hop]; exact (Option.some.inj h).symm, fun s' he _ => ?_⟩
            simp only [aOp, hop, maskOf]
            rw [he l (by simp [hop, Op.operands]), he c (by simp [hop, Op.operands]), hel, h1, h2]
            simp only [hz, hx]
            rw [if_pos hc]
            rfl
          · cases h
        · cases h
      · cases h
    · cases h
  | buildSlice t len parts =>
    simp only [aOp, hop] at h
    have hparts : ∀ s' : St, (∀ x ∈ o.op.operands, s'.ev x = s.ev x) → (parts.toList.map fun (i, x) => (i, s'.ev x)) = (parts.toList.map fun (i, x) => (i, s.ev x)) := fun s' he =>
      List.map_congr_left fun ⟨i, x⟩ hx => by
        show (i, s'.ev x) = (i, s.ev x)
        rw [he x (by simp only [hop, Op.operands, List.mem_toArray]; exact List.mem_map.2 ⟨(i, x), hx, rfl⟩)]
    split at h
    · rename_i et e hel
      split at h
      · rename_i xs hxs
        split at h
        · rename_i hc
          refine ⟨_, by simp only [maskOf, hop]; exact (Option.some.inj h).symm, fun s' he _ => ?_⟩
          simp only [aOp, hop, maskOf]
          rw [hel, hparts s' he]
          simp only [hxs, if_pos hc]
          rfl
        · cases h
      · cases h
    · cases h
  | build t parts =>
    simp only [aOp, hop] at h
    have hparts : ∀ s' : St, (∀ x ∈ o.op.operands, s'.ev x = s.ev x) → (parts.toList.map fun (i, x) => (i, s'.ev x)) = (parts.toList.map fun (i, x) => (i, s.ev x)) := fun s' he =>
      List.map_congr_left fun ⟨i, x⟩ hx => by
        show (i, s'.ev x) = (i, s.ev x)
        rw [he x (by simp only [hop, Op.operands, List.mem_toArray]; exact List.mem_map.2 ⟨(i, x), hx, rfl⟩)]
    refine zero (by simp [maskOf, hop]) ?_
    split at h
    · rename_i hu hz
      split at h
      · rename_i cs hcs
        split at h
        · rename_i cs' hf
          exact ⟨_, (Option.some.inj h).symm, fun s' he _ => by simp only [aOp, hop]; rw [hparts s' he, hu, hz]; simp only [hcs, hf]⟩
        · cases h
      · cases h
    · cases h
  | makeFunc fn first caps =>
    simp only [aOp, hop] at h
    have hcaps : ∀ s' : St, (∀ x ∈ o.op.operands, s'.ev x = s.ev x) → caps.toList.map s'.ev = caps.toList.map s.ev := fun s' he =>
      List.map_congr_left fun x hx => he x (by
        simp only [hop, Op.operands, Array.mem_append]
        exact .inr (by simpa using hx))
    refine zero (by simp [maskOf, hop]) ?_
    cases fn <;> first | (cases h; done) | skip
    · rename_i f
      cases hf : first.toList with
      | cons _ _ => rw [hf] at h; cases h
      | nil =>
      rw [hf] at h
      simp only at h
      split at h
      · rename_i hall
        exact ⟨_, (Option.some.inj h).symm, fun s' he _ => by simp only [aOp, hop, hf]; rw [hcaps s' he, if_pos hall]⟩
      · cases h
  | extract x i =>
    simp only [aOp, hop] at h
    refine zero (by simp [maskOf, hop]) ?_
    split at h
    · rename_i vs hb
      split at h
      · rename_i y hy
        exact ⟨_, (Option.some.inj h).symm, fun s' he _ => by simp only [aOp, hop]; rw [he x (by simp [hop, Op.operands]), hb]; simp only [hy]⟩
      · cases h
    · cases h
  | binOp op t x y yt =>
    simp only [aOp, hop] at h
    obtain ⟨z, h1, h2⟩ := binA_eff h
    exact zero (by simp [maskOf, hop]) ⟨z, h1, fun s' he _ => by simp only [aOp, hop]; rw [he x (by simp [hop, Op.operands]), he y (by simp [hop, Op.operands])]; exact h2 s'⟩
  | unOp op t x =>
    simp only [aOp, hop] at h
    refine zero (by simp [maskOf, hop]) ?_
    split at h
    · rename_i u hu
      split at h
      · rename_i hc
        obtain ⟨z, h1, h2⟩ := fin1_eff h
        exact ⟨z, h1, fun s' he _ => by simp only [aOp, hop]; rw [he x (by simp [hop, Op.operands])]; simp only [hu, if_pos hc]; exact h2 s'⟩
      · cases h
    · cases h
  | convert src dst x =>
    rw [conv_map hop] at h
    cases hz : convF Γ.P src dst (s.ev x) with
    | none => rw [hz] at h; cases h
    | some z =>
      rw [hz] at h
      exact zero (by simp [maskOf, hop]) ⟨z, (Option.some.inj h).symm, fun s' he _ => by rw [conv_map hop, he x (by simp [hop, Op.operands]), hz]; rfl⟩
  | call c =>
    simp only [aOp, hop] at h
    have hargs : ∀ s' : St, (∀ x ∈ o.op.operands, s'.ev x = s.ev x) → c.args.toList.map s'.ev = c.args.toList.map s.ev := fun s' he =>
      List.map_congr_left fun x hx => he x (by
        simp only [hop, Op.operands, Call.operands, Array.mem_append]
        exact .inr (by simpa using hx))
    split at h
    · rename_i f hcal
      have hfo : ∀ s' : St, (∀ x ∈ o.op.operands, s'.ev x = s.ev x) → s'.ev f = s.ev f := fun s' he => he f (by simp [hop, Op.operands, Call.operands, hcal])
      split at h
      · rename_i f' hf
        obtain ⟨z, h1, h2⟩ := callA_eff h
        have hm : maskOf Γ n o = (Γ.sh f').bits (8 * n) 0 := by
          cases f with
          | func g =>
            have : g = f' := by simpa [St.ev] using hf
            subst this
            simp [maskOf, hop, hcal]
          | _ => exact absurd (by simp [clsOf, hop, hcal]) hc
        rw [hm]
        exact ⟨z, h1, fun s' he _ => by simp only [aOp, hop]; rw [hcal]; simp only; rw [hfo s' he, hf, hargs s' he]; exact h2 s'⟩
      · cases h
    · rename_i hcal
      refine zero (by simp [maskOf, hop, hcal]) ?_
      split at h
      · rename_i x t ha ht
        have hx : ∀ s' : St, (∀ x ∈ o.op.operands, s'.ev x = s.ev x) → s'.ev x = s.ev x := fun s' he => by
          have := hargs s' he
          rw [ha] at this
          simpa using this
        split at h
        · rename_i hu
          split at h
          · rename_i b hb
            exact ⟨_, (Option.some.inj h).symm, fun s' he _ => by simp only [aOp, hop]; rw [hcal, ha, ht]; simp only; rw [hu, hx s' he, hb]⟩
          · cases h
        · rename_i et hu
          split at h
          · rename_i hsl
            exact ⟨_, (Option.some.inj h).symm, fun s' he _ => by simp only [aOp, hop]; rw [hcal, ha, ht]; simp only; rw [hu, hx s' he]; simp only [hsl]⟩
          · rename_i hsl hb
            exact ⟨_, (Option.some.inj h).symm, fun s' he _ => by simp only [aOp, hop]; rw [hcal, ha, ht]; simp only; rw [hu, hx s' he, hb]; rfl⟩
          · cases h
        · cases h
      · cases h
    · rename_i hcal
      refine zero (by simp [maskOf, hop, hcal]) ?_
      split at h
      · rename_i x y ha
        have hxy : ∀ s' : St, (∀ x ∈ o.op.operands, s'.ev x = s.ev x) → s'.ev x = s.ev x ∧ s'.ev y = s.ev y := fun s' he => by
          have := hargs s' he
          rw [ha] at this
          simpa using this
        obtain ⟨z, h1, h2⟩ := mmA_eff h
        exact ⟨z, h1, fun s' he _ => by simp only [aOp, hop]; rw [hcal, ha]; simp only; rw [(hxy s' he).1, (hxy s' he).2]; exact h2 s'⟩
      · cases h
    · rename_i hcal
      refine zero (by simp [maskOf, hop, hcal]) ?_
      split at h
      · rename_i x y ha
        have hxy : ∀ s' : St, (∀ x ∈ o.op.operands, s'.ev x = s.ev x) → s'.ev x = s.ev x ∧ s'.ev y = s.ev y := fun s' he => by
          have := hargs s' he
          rw [ha] at this
          simpa using this
        obtain ⟨z, h1, h2⟩ := mmA_eff h
        exact ⟨z, h1, fun s' he _ => by simp only [aOp, hop]; rw [hcal, ha]; simp only; rw [(hxy s' he).1, (hxy s' he).2]; exact h2 s'⟩
      · cases h
    · rename_i hcal
      exact absurd (by simp [clsOf, hop, hcal]) ha_
    · cases h
  | store T x y => exact absurd (by simp [clsOf, hop]) hw
  | _ => first | exact absurd (by simp [clsOf, hop]) hc | (simp [aOp, hop] at h)
end
end Go.Eng
