/- Blocks, filters, tables by the machine: the shapes of answers. -/
import Derived.Test.YtogancdiihbjfaaEngX
import Derived.Laws.Externs
namespace Go.Eng.Bk
open Go Go.Proofs Go.Eng
abbrev u8 : Ty := .int .u8
abbrev i64 : Ty := .int .i64
abbrev f64 : Ty := .flt .f64
abbrev KeyT : Ty := .pair .str (.pair i64 (.pair i64 .unit))
abbrev EntryT : Ty := .pair KeyT (.pair .str .unit)
abbrev Ke : Type := ByteArray × (Int × (Int × Unit))
abbrev En : Type := Ke × (ByteArray × Unit)
abbrev ou8 : Option TypeId × Ty := (some 5, .sl u8)
abbrev oEn : Option TypeId × Ty := (some 26, .sl EntryT)
def shOf : FuncId → Sh
  | 17 | 43 | 37 | 46 => .tup [ou8, (none, i64)]
  | 18 | 22 | 23 | 54 | 57 | 62 | 72 | 78 | 80 | 81 | 94 | 100 | 101 | 102 | 111 | 118 => .one none i64
  | 24 | 25 | 53 | 55 | 56 | 71 | 73 | 74 | 83 | 86 | 104 | 105 | 106 | 109 | 110 | 120 | 119 => .one (some 5) (.sl u8)
  | 29 | 30 | 31 | 32 | 59 | 64 | 91 | 92 | 93 | 121 | 123 | 124 => .one none f64
  | 33 | 35 => .one (some 26) (.sl EntryT)
  | 34 | 38 => .tup [oEn, (none, .bool)]
  | 39 | 40 | 51 => .tup [(none, EntryT), (none, .bool)]
  | 42 => .one none .str
  | 45 => .tup [oEn, (none, i64)]
  | 47 => .tup [oEn, ou8, (none, i64)]
  | 48 | 49 => .tup [(none, EntryT), (none, .bool), (none, i64)]
  | 50 => .tup [(none, .str), (none, .str)]
  | 65 => .one none (.int .u64)
  | 67 | 75 => .tup [(none, i64), (none, .bool)]
  | 68 => .tup [(none, EntryT), (none, i64), (none, .bool)]
  | 76 | 97 => .tup [(none, i64), (none, i64), (none, .bool)]
  | 77 | 98 => .tup [(none, .str), (none, i64), (none, .bool)]
  | 82 => .tup [ou8, ou8]
  | 84 | 87 | 107 => .one (some 9) (.sl .str)
  | 85 => .tup [oEn, ou8, (none, .bool)]
  | 88 | 108 => .tup [ou8, (none, i64), (none, .bool)]
  | 95 => .one none (.int .u32)
  | 99 => .tup [(none, i64), (none, i64)]
  | 113 => .tup [(none, f64), (none, f64)]
  | _ => .one none .bool
def insideOf : FuncId → Bool
  | 60 | 66 | 78 => true
  | _ => false
/-- The greatest whole number that is not above, as math.Floor has it. -/
def floorF (x : Nat) : Nat := FloatKind.f64.encode ((FloatKind.f64.decode x).integral .down)
def spOf : (f : FuncId) → Option (List AV → Option (shOf f).den)
  | 64 => some fun args => match args with
    | [.v (.int .u64) n] => some (Int.toNat n)
    | _ => none
  | 65 => some fun args => match args with
    | [.v (.flt .f64) x] => some (Int.ofNat x)
    | _ => none
  | 92 => some fun args => match args with
    | [.v (.flt .f64) x] => if (FloatKind.f64.decode x).isNaN then none else some (floorF x)
    | _ => none
  | _ => none
def hintOf : FuncId → Hints
  | 3 => fun r => match r with | 4 => (250125, 1073729933, [(6, 26, (.pair (.pair .str (.pair (.int .i64) (.pair (.int .i64) .unit))) (.pair .str .unit)))], []) | _ => (0, 0, [], [])
  | 5 => fun r => match r with | 5 => (536862776, 1099511619896, [(7, 9, .str)], []) | 16 => (19342813113834066795293117, 42535295865117307932921825928971025341, [], []) | _ => (0, 0, [], [])
  | 6 => fun r => match r with | 5 => (261646, 8796093022191, [], []) | 9 => (261646, 261646, [], []) | _ => (0, 0, [], [])
  | 11 => fun r => match r with | 4 => (28685, 134213773, [], []) | _ => (0, 0, [], [])
  | 12 => fun r => match r with | 11 => (154742504910672465917050703, 374144419156711147060143317175368453031918730936319, [], []) | _ => (0, 0, [], [])
  | 15 => fun r => match r with | 11 => (604462909807314584217359, 10141204801825835211973624604655, [], []) | _ => (0, 0, [], [])
  | 16 => fun r => match r with | 8 => (36028796951859163, 166153499473114484112975882535038975, [], []) | _ => (0, 0, [], [])
  | 17 => fun r => match r with | 7 => (4193794, 4722366482869645213635, [(4, 5, .int .u8), (5, 5, .int .u8)], []) | _ => (0, 0, [], [])
  | 20 => fun r => match r with | 2 => (2, 1048570, [], []) | _ => (0, 0, [], [])
  | 24 => fun r => match r with | 8 => (2201170738447, 8796093021967, [], []) | _ => (0, 0, [], [])
  | 25 => fun r => match r with | 9 => (1099511619598, 77371252455336267181195119, [], []) | 14 => (282574488330254, 282574488330254, [], []) | _ => (0, 0, [], [])
  | 27 => fun r => match r with | 10 => (549755811854, 36893488147419103215, [], []) | _ => (0, 0, [], [])
  | 33 => fun r => match r with | 3 => (17592186045964, 35184372088783, [], [(0, 0, 26, EntryT)]) | _ => (0, 0, [], [])
  | 34 => fun r => match r with | 8 => (549755781170, 147573952589676388210, [(7, 26, (.pair (.pair .str (.pair (.int .i64) (.pair (.int .i64) .unit))) (.pair .str .unit)))], []) | _ => (0, 0, [], [])
  | 36 => fun r => match r with | 2 => (2, 2147483642, [], []) | _ => (0, 0, [], [])
  | 37 => fun r => match r with | 8 => (8387586, 9671406556917033397649283, [(4, 5, (.int .u8)), (5, 5, (.int .u8))], []) | _ => (0, 0, [], [])
  | 38 => fun r => match r with | 8 => (288230376134934578, 1393796574908163946345982392040522581540722, [(7, 26, (.pair (.pair .str (.pair (.int .i64) (.pair (.int .i64) .unit))) (.pair .str .unit)))], []) | _ => (0, 0, [], [])
  | 39 => fun r => match r with | 7 => (8589932487, 70368744177615, [], []) | _ => (0, 0, [], [])
  | 40 => fun r => match r with | 2 => (6, 33554383, [], []) | _ => (0, 0, [], [])
  | 41 => fun r => match r with | 4 => (1996, 67108847, [], []) | _ => (0, 0, [], [])
  | 42 => fun r => match r with | 2 => (2, 65522, [], []) | _ => (0, 0, [], [])
  | 47 => fun r => match r with | 7 => (8589738050, 1180591620717411139138, [], []) | _ => (0, 0, [], [])
  | 51 => fun r => match r with | 2 => (56, 137438953279, [], []) | _ => (0, 0, [], [])
  | 52 => fun r => match r with | 2 => (2, 2147483643, [], []) | _ => (0, 0, [], [])
  | 53 => fun r => match r with | 5 => (32652, 2147483599, [], []) | _ => (0, 0, [], [])
  | 54 => fun r => match r with | 2 => (12, 16777167, [], []) | _ => (0, 0, [], [])
  | 55 => fun r => match r with | 4 => (50, 65522, [(3, 5, .int .u8)], []) | _ => (0, 0, [], [])
  | 60 => fun r => match r with | 4 => (127219, 17179868927, [], []) | _ => (0, 0, [], [])
  | 62 => fun r => match r with | 3 => (2, 262131, [], []) | _ => (0, 0, [], [])
  | 66 => fun r => match r with | 4 => (902, 8589934470, [], []) | _ => (0, 0, [], [])
  | 67 => fun r => match r with | 5 => (1099511626303, 4503599627370047, [], []) | _ => (0, 0, [], [])
  | 69 => fun r => match r with | 4 => (4044, 67108847, [], []) | _ => (0, 0, [], [])
  | 70 => fun r => match r with | 2 => (2, 34359738363, [], []) | _ => (0, 0, [], [])
  | 71 => fun r => match r with | 6 => (1048335, 2147483599, [], []) | _ => (0, 0, [], [])
  | 72 => fun r => match r with | 2 => (12, 134217679, [], []) | _ => (0, 0, [], [])
  | 73 => fun r => match r with | 4 => (50, 131058, [(3, 5, .int .u8)], []) | _ => (0, 0, [], [])
  | 75 => fun r => match r with | 5 => (268434488, 8796093021759, [], []) | _ => (0, 0, [], [])
  | 76 => fun r => match r with | 5 => (261132, 288230376151711631, [], []) | _ => (0, 0, [], [])
  | 78 => fun r => match r with | 2 => (269, 33554383, [], []) | _ => (0, 0, [], [])
  | 84 => fun r => match r with | 3 => (19, 524275, [], []) | _ => (0, 0, [], [])
  | 85 => fun r => match r with | 9 => (1099511595074, 151115727451828646813538, [], []) | _ => (0, 0, [], [])
  | 86 => fun r => match r with | 3 => (4152, 4611686018427338298, [], []) | _ => (0, 0, [], [])
  | 87 => fun r => match r with | 3 => (2, 274877906931, [], []) | _ => (0, 0, [], [])
  | 94 => fun r => match r with | 3 => (34, 262131, [], []) | _ => (0, 0, [], [])
  | 97 => fun r => match r with | 4 => (1548, 1125899906842511, [], []) | _ => (0, 0, [], [])
  | 100 => fun r => match r with | 3 => (19, 131059, [], []) | _ => (0, 0, [], [])
  | 106 => fun r => match r with | 3 => (146, 8388274, [], []) | 11 => (33554107, 34359738299, [], []) | _ => (0, 0, [], [])
  | 107 => fun r => match r with | 4 => (962, 1152921504606846970, [], []) | 9 => (962, 962, [], []) | _ => (0, 0, [], [])
  | 111 => fun r => match r with | 3 => (2, 2147483635, [], []) | 7 => (2, 2, [], []) | _ => (0, 0, [], [])
  | 117 => fun r => match r with | 1 => (8, 2147483647, [], []) | _ => (0, 0, [], [])
  | 118 => fun r => match r with | 3 => (19, 268435443, [], []) | 7 => (19, 19, [], []) | _ => (0, 0, [], [])
  | _ => noHints
noncomputable def B : Base := { P := Try.prog, typ := tyOf Try.prog 8, sh := shOf, keep := hintOf, isIn := insideOf, sp := spOf }
theorem has64 : (Try.prog.funcs[64]?).isSome = true := by kernel_rfl
theorem has65 : (Try.prog.funcs[65]?).isSome = true := by kernel_rfl
theorem has92 : (Try.prog.funcs[92]?).isSome = true := by kernel_rfl
/-- A function of one word, without a body. -/
theorem ext1 {f : FuncId} {fn : Func} (hf : Try.prog.funcs[f]? = some fn) (hname : (fn.name == "runtime.NumGoroutine") = false) (hb : fn.body.isNone = true) (hn : Extern.findNext fn = none)
    {e : Array Value → Sem Value} (he : Extern.find fn = some e) {T : Ty} {y : T.den} {x : AV} {v : Value} (hx : ∀ (w : World) (N : Nat → Prop) (u : Value), V (argVw w N) x u → ∀ w', (e #[u]).run Try.prog w' = .ok v w')
    (hr : ∀ (w : World) (N : Nat → Prop), ResV w w N (.one none T) y v) : CallOk Try.prog (.one none T) f [x] y := by
  refine .inr ⟨⟨fn, hf, hb⟩, fun w N vargs h => ?_⟩
  cases vargs with
  | nil => exact h.elim
  | cons u us =>
    cases us with
    | cons _ _ => exact h.2.elim
    | nil =>
      refine ⟨v, ?_, hr w N⟩
      rw [run_callFunc_extern hf hname hb hn he]
      have := hx w N u h.1 w
      rw [show ([u] : List Value).toArray = #[u] from rfl, this]
      rfl
theorem ext64 {n : Int} : CallOk Try.prog (shOf 64) 64 [.v (.int .u64) n] (Int.toNat n : Nat) :=
  ext1 (T := .flt .f64) (y := (Int.toNat n : Nat)) (v := .float .f64 n.toNat) (Option.some_get has64).symm (by kernel_rfl) (by kernel_rfl) (by kernel_rfl) (e := Extern.MathFloatBits.float64frombits) (by kernel_rfl)
    (fun w N u h w' => by rw [V_int h]; rfl) (fun w N => ⟨⟨⟨_, rfl, rfl⟩, rfl⟩, List.nodup_nil⟩)
theorem ext65 {x : Nat} : CallOk Try.prog (shOf 65) 65 [.v (.flt .f64) x] (Int.ofNat x : Int) :=
  ext1 (T := .int .u64) (y := (Int.ofNat x : Int)) (v := .int .u64 x) (Option.some_get has65).symm (by kernel_rfl) (by kernel_rfl) (by kernel_rfl) (e := Extern.MathFloatBits.float64bits) (by kernel_rfl)
    (fun w N u h w' => by rw [V_flt h]; rfl) (fun w N => ⟨⟨⟨_, rfl, rfl⟩, rfl⟩, List.nodup_nil⟩)
theorem floor_cases (x : Nat) : ∃ g, Extern.MathFloor.toIntegral "math.archFloor" .down #[.float .f64 x] = Extern.MathFloor.toIntegral.match_1 (motive := fun _ => Sem Value) (FloatKind.f64.decode x) g
    (fun d => pure (.float .f64 (FloatKind.f64.encode (Ieee.Datum.integral .down d)))) := by
  refine ⟨?_, ?_⟩
  rotate_left
  · delta Extern.MathFloor.toIntegral
    exact rfl
theorem ext92 {x : Nat} (hx : (FloatKind.f64.decode x).isNaN = false) : CallOk Try.prog (shOf 92) 92 [.v (.flt .f64) x] (floorF x) :=
  ext1 (T := .flt .f64) (y := floorF x) (v := .float .f64 (floorF x)) (Option.some_get has92).symm (by kernel_rfl) (by kernel_rfl) (by kernel_rfl) (e := Extern.MathFloor.toIntegral "math.archFloor" .down) (by kernel_rfl)
    (fun w N u h w' => by
      rw [V_flt h]
      obtain ⟨g, hg⟩ := floor_cases x
      rw [hg]
      unfold floorF
      cases hd : FloatKind.f64.decode x with
      | nan s t => rw [hd] at hx; cases hx
      | number s m e => rfl
      | infinity s => rfl) (fun w N => ⟨⟨⟨_, rfl, rfl⟩, rfl⟩, List.nodup_nil⟩)
theorem bok : BaseOk B := ⟨names_of (by kernel_rfl), fun f g args r h h2 => by
  have h' : spOf f = some g := h
  unfold spOf at h'
  split at h'
  · cases h'
    simp only at h2
    split at h2
    · cases h2; exact ext64
    · cases h2
  · cases h'
    simp only at h2
    split at h2
    · cases h2; exact ext65
    · cases h2
  · cases h'
    simp only at h2
    split at h2
    · split at h2
      · cases h2
      · rename_i hn
        cases h2; exact ext92 (by simpa using hn)
    · cases h2
  · cases h'⟩
end Go.Eng.Bk
