/- BlockTurned's function answers true. -/
import Derived.Test.YtogancdiihbjfaaBkU
namespace Go.Eng.Bk
open Go Go.Proofs Go.Eng
set_option linter.unusedVariables false
set_option linter.unusedSimpArgs false
theorem putBlock_zero {l : List En} (h : (putBlock l).2.1 = 0) : l.length ≠ 0 ∧ rising l = true ∧ l.length ≤ 64 := by
  unfold putBlock at h
  split at h
  · cases h
  · rename_i hc
    split at h
    · cases h
    · refine ⟨fun h0 => hc (.inl h0), ?_, by omega⟩
      cases hr : rising l with
      | true => rfl
      | false => exact absurd (.inr hr) hc
theorem getRes_cases (b : List Int) (o : Option (List En)) : getRes b o = ([], false, ()) ∨ ∃ out, o = some out ∧ getRes b o = (out, true, ()) ∧ putBlock out = (b, 0, ()) := by
  unfold getRes
  cases o with
  | none => exact .inl rfl
  | some out =>
    simp only
    split
    · rename_i h
      refine .inr ⟨out, rfl, rfl, ?_⟩
      rw [← h.2, ← h.1]
    · exact .inl rfl
theorem getBlock_cases (b : List Int) : getBlock b = ([], false, ()) ∨ ∃ out, getBlock b = (out, true, ()) ∧ putBlock out = (b, 0, ()) := by
  unfold getBlock
  split
  · rcases getRes_cases b (getLoop (b.take ((b.length : Int) - 2 - 4 * (gfx b ((b.length : Int) - 2) 2).1).toNat) (b.length + 1) 0 ⟨#[]⟩ []) with h | ⟨out, _, h, h'⟩
    · exact .inl h
    · exact .inr ⟨out, h, h'⟩
  · exact .inl rfl
theorem Bytes.app {a b : List Int} (ha : Bytes a) (hb : Bytes b) : Bytes (a ++ b) := fun x hx => by
  rcases List.mem_append.1 hx with h | h
  · exact ha x h
  · exact hb x h
theorem encE_bytes (n : Nat) (e : En) : Bytes (encE n e) :=
  (((enc_bytes _).app ((enc_bytes _).app (bytesOf_bytes _))).app (enc_bytes _)).app ((enc_bytes _).app (bytesOf_bytes _))
theorem putB_bytes (l : List En) : ∀ (d i : Nat) (out pl : List Int), Bytes out → Bytes pl → Bytes (putB l d i out pl).1 ∧ Bytes (putB l d i out pl).2
  | 0, _, _, _, h1, h2 => ⟨h1, h2⟩
  | d + 1, i, out, pl, h1, h2 => putB_bytes l d (i + 1) _ _ (h1.app (encE_bytes _ _)) (by
      split
      · exact h2.app (fx_bytes _ _)
      · exact h2)
theorem putBlock_bytes (l : List En) : Bytes (putBlock l).1 := by
  have nil : Bytes [] := fun x hx => by cases hx
  unfold putBlock
  split
  · exact nil
  · split
    · exact nil
    · have := putB_bytes l l.length 0 [] [] nil nil
      exact (this.1.app this.2).app (fx_bytes _ _)
theorem e8 {k : Nat} {a3 : List Int} (hb : Bytes a3) (hl : a3.length ≤ 2000) (hk : 60000 ≤ k) :
    ((callN B k 34 [(.v (.sl (.int .u8)) (a3))]).bind fun (v7 : ((List En) × Bool × Unit)) => (callN B k 17 [(.v (.sl EntryT) (v7.fst))]).bind fun (v8 : ((List Int) × Int × Unit)) => bif (!v7.snd.fst) == false then (bif ((strOf v8.fst).toList == (strOf a3).toList) == true then (bif v7.snd.fst == false then (bif ((↑(List.length v7.fst) : Int) == (0 : Int)) == true then ((callN B k 19 []).bind fun (v9 : Bool) => some (v9)) else (some (false))) else ((callN B k 19 []).bind fun (v10 : Bool) => some (v10))) else (some (false))) else (bif v7.snd.fst == false then (bif ((↑(List.length v7.fst) : Int) == (0 : Int)) == true then ((callN B k 19 []).bind fun (v11 : Bool) => some (v11)) else (some (false))) else ((callN B k 19 []).bind fun (v12 : Bool) => some (v12)))) = some true := by
  refine bnd (s34 hb (by omega) (by omega)) ?_
  rcases getBlock_cases a3 with h | ⟨out, h, hp⟩
  · rw [h]
    refine bnd (s17 (l := []) (by simp) (by simp; omega)) ?_
    exact bnd (s19 (by omega)) rfl
  · rw [h]
    have := putBlock_zero (l := out) (by rw [hp])
    refine bnd (s17 (l := out) (by omega) (by omega)) ?_
    rw [hp]
    simp only [beq_self_eq_true]
    exact bnd (s19 (by omega)) rfl
theorem s8 {k : Nat} (hk : 100000 ≤ k) {a0 : List Int} (h0 : Bytes a0) (a1 : Nat) (h1 : a1 < 65536) {a2 a3 : List Int} (h3 : Bytes a3) : callN B k 8 [argAV (.sl u8) a0, argAV u16 (a1 : Int), argAV (.sl u8) a2, argAV (.sl u8) a3] = (some true : Option Bool) := by
  obtain ⟨k, rfl⟩ := Nat.exists_eq_add_of_le' (show 1 ≤ k by omega)
  refine (callS k 8 _).trans ((t8 (callN B k) (lvl B k).2 k a0 (a1 : Int) a2 a3).trans ?_)
  have aw : (((callN B k 19 []).bind fun (v0 : Bool) => some (v0)) : Option Bool) = some true := bnd (s19 (by omega)) rfl
  by_cases c1 : (((a0.length : Int) == (0 : Int)) == false) = true
  case neg => rw [Bool.not_eq_true] at c1; rw [c1]; exact aw
  rw [c1, cond_true]
  by_cases c2 : (a0.length : Int) > 64
  · rw [decide_eq_true c2]; exact aw
  rw [decide_eq_false c2, beq_self_eq_true, cond_true]
  by_cases c3 : (((a2.length : Int) == (0 : Int)) == false) = true
  case neg => rw [Bool.not_eq_true] at c3; rw [c3]; exact aw
  rw [c3, cond_true]
  by_cases c4 : (a2.length : Int) > 50
  · rw [decide_eq_true c4]; exact aw
  rw [decide_eq_false c4, beq_self_eq_true, cond_true]
  by_cases c5 : (a3.length : Int) > 2000
  · rw [decide_eq_true c5]; exact aw
  rw [decide_eq_false c5, cond_false]
  have hpos : 0 < a0.length := by
    cases h : a0.length with
    | zero => rw [h] at c1; exact absurd c1 (by decide)
    | succ n => omega
  have hm := mkL_good h0 (by omega) 5
  have hr := mkL_rising h0 (by omega) 5
  have hml : (mkL a0 5).length = a0.length := hm.2.2.2
  have hp := putBlock_ok (l := mkL a0 5) (by omega) hr (by omega)
  refine bnd (s33 h0 (by omega) (by omega) 5 (by omega)) ?_
  refine bnd (s17 (l := mkL a0 5) (by omega) (by omega)) ?_
  have hbl := putBlock_length (mkL a0 5)
  have hby := putBlock_bytes (mkL a0 5)
  have hb2 : 2 ≤ (putBlock (mkL a0 5)).1.length := by rw [hp, finB_len']; omega
  generalize (putBlock (mkL a0 5)).1 = b at hbl hby hb2 ⊢
  have hn0 : ((b.length : Int) == (0 : Int)) = false := by rw [beq_eq_false_iff_ne]; omega
  rw [hn0, cond_false, if_neg (by omega)]
  rw [w64 (x := (a1 : Int)) (by omega) (by omega)]
  have hmod : Int.tmod (a1 : Int) (b.length : Int) = ((a1 % b.length : Nat) : Int) := rfl
  rw [hmod]
  have hlt : a1 % b.length < b.length := Nat.mod_lt _ (by omega)
  rw [if_pos (by omega), Int.toNat_natCast, List.drop_zero]
  have hbt := hby.take (a1 % b.length)
  have htl : (b.take (a1 % b.length)).length ≤ 40000 := by rw [List.length_take]; omega
  generalize b.take (a1 % b.length) = t at hbt htl ⊢
  refine bnd (s34 hbt (by omega) (by omega)) ?_
  rcases getBlock_cases t with h | ⟨out, h, hpo⟩
  · rw [h, cond_false]
    exact e8 h3 (by omega) (by omega)
  · rw [h, cond_true, if_neg (by omega), if_pos (by omega)]
    refine bnd (s35 hbt (by omega) (by omega)) ?_
    rw [h]
    have := putBlock_zero (l := out) (by rw [hpo])
    refine bnd (s17 (l := out) (by omega) (by omega)) ?_
    rw [hpo]
    refine bnd (s18 (by omega) _) ?_
    rw [show (((0 : Int) != (0 : Int)) == false) = true from rfl, cond_true, if_neg (by omega), if_pos (by omega)]
    simp only [beq_self_eq_true, Bool.not_true, cond_false]
    exact e8 h3 (by omega) (by omega)
end Go.Eng.Bk
