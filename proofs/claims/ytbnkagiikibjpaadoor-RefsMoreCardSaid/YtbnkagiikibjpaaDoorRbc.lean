/- Rb, part 3: several texts of mine, laid together. -/
import Derived.Test.YtbnkagiikibjpaaDoorRbb
import Derived.Shelf.Slices.Cells
import Derived.Shelf.LaysC
import Derived.WalkKit
import Derived.Shelf.Strconv.AtoiAll
import Derived.Shelf.Strconv.Itoa3
import Derived.Shelf.Strings.Cut
import Derived.BigCall
import Derived.Lib.AtoiErrMem
import Derived.Shelf.Sort.Plain
import Derived.Shelf.Slices.Clone
import Derived.LoopN
import Derived.Sort.Walk0
import Derived.Lib.AtoiAllCases
import Derived.Lib.ItoaLen
import Derived.Lib.IndexLaws
set_option linter.unusedVariables false
set_option linter.unusedSimpArgs false
/- The library's contracts, laid at this program: printed by lays.py; each field by the kernel. -/
namespace Go.Eng.Bk
open Go Go.Proofs Go.Eng Go.RowKit Go.Shelf
set_option linter.unusedVariables false
def rho : Go.Shelf.Ren := ⟨fun f => match f with
    | 103 => 23
    | 109 => 50
    | 110 => 37
    | 125 => 58
    | 128 => 81
    | 129 => 82
    | 145 => 25
    | 171 => 30
    | 172 => 40
    | 190 => 47
    | 194 => 49
    | 205 => 87
    | 206 => 51
    | 210 => 38
    | 217 => 59
    | 219 => 52
    | 220 => 39
    | 224 => 61
    | 225 => 60
    | 243 => 41
    | 244 => 53
    | 245 => 54
    | 246 => 55
    | 247 => 63
    | 258 => 57
    | 266 => 83
    | 267 => 62
    | 279 => 64
    | 280 => 65
    | 281 => 66
    | 282 => 67
    | 283 => 68
    | 284 => 69
    | 285 => 70
    | 286 => 71
    | 287 => 85
    | 302 => 72
    | 303 => 73
    | 304 => 74
    | 305 => 75
    | 306 => 76
    | 307 => 77
    | 308 => 78
    | 309 => 79
    | 310 => 80
    | 314 => 84
    | 316 => 86
    | 317 => 88
    | 318 => 89
    | 319 => 90
    | 320 => 91
    | 321 => 98
    | 322 => 99
    | 329 => 93
    | 330 => 94
    | 333 => 92
    | 334 => 95
    | 335 => 96
    | 336 => 97
    | 337 => 100
    | 338 => 101
    | 344 => 102
    | 347 => 103
    | 348 => 104
    | 349 => 105
    | 350 => 106
    | 351 => 107
    | 352 => 108
    | 353 => 109
    | 354 => 110
    | 355 => 111
    | 356 => 112
    | 357 => 113
    | 358 => 114
    | 359 => 115
    | 360 => 116
    | 361 => 117
    | 363 => 120
    | 364 => 118
    | 365 => 119
    | 366 => 121
    | 367 => 129
    | x => x, fun t => match t with
    | 22 => 75
    | 24 => 48
    | 25 => 49
    | 27 => 76
    | 28 => 59
    | 32 => 74
    | 33 => 64
    | 37 => 33
    | 46 => 28
    | 47 => 81
    | 51 => 30
    | 52 => 102
    | 53 => 27
    | 54 => 91
    | 55 => 82
    | 59 => 50
    | 60 => 51
    | 69 => 107
    | 74 => 65
    | 75 => 66
    | 76 => 67
    | 77 => 68
    | 80 => 131
    | 81 => 137
    | 83 => 47
    | 84 => 78
    | 100 => 73
    | 101 => 40
    | 102 => 62
    | 104 => 120
    | 108 => 110
    | 111 => 55
    | 114 => 83
    | 127 => 122
    | 128 => 77
    | 131 => 52
    | 135 => 80
    | 143 => 123
    | 144 => 124
    | 145 => 125
    | 146 => 103
    | 151 => 104
    | 164 => 145
    | 167 => 84
    | 168 => 87
    | 169 => 88
    | 170 => 89
    | 171 => 90
    | 172 => 92
    | 173 => 93
    | 174 => 94
    | 175 => 105
    | 176 => 106
    | 182 => 96
    | 183 => 97
    | 188 => 95
    | 189 => 98
    | 190 => 99
    | 191 => 100
    | 192 => 101
    | 209 => 108
    | 210 => 109
    | 211 => 111
    | 212 => 112
    | 213 => 113
    | 214 => 121
    | 218 => 114
    | 219 => 115
    | 220 => 116
    | 222 => 118
    | 224 => 117
    | 225 => 119
    | 228 => 126
    | 229 => 127
    | 231 => 128
    | 232 => 129
    | 233 => 130
    | 238 => 132
    | 239 => 133
    | 240 => 134
    | 241 => 135
    | 242 => 136
    | 243 => 138
    | 244 => 139
    | 245 => 140
    | 246 => 141
    | 247 => 142
    | 248 => 143
    | 249 => 144
    | x => x, fun g => match g with
    | 1 => 0
    | 15 => 1
    | 16 => 2
    | 17 => 3
    | 18 => 4
    | 19 => 5
    | x => x⟩
theorem isAgg_of {P : Program} {t : TypeId} (h : isOneT P t = true) (w : World) : (isAgg t).run P w = .ok false w := run_isAgg_no h w
def aggB (P : Program) (t : TypeId) : Bool := match P.underlying t with
  | some (.struct _) => true
  | some (.array _ _) => true
  | _ => false
theorem isAgg_yes {P : Program} {t : TypeId} (h : aggB P t = true) (w : World) : (isAgg t).run P w = .ok true w := by
  unfold aggB at h
  split at h
  · rename_i hu; simp [isAgg, run_underlying hu]
  · rename_i hu; simp [isAgg, run_underlying hu]
  · cases h
theorem size_at {P : Program} {t : TypeId} {n : Nat} (h : Nat.blt 0 (szOf P t) = true) (hn : szOf P t = n) (w : World) : (Go.sizeOf t).run P w = .ok n w := hn ▸ run_sizeOf h w
theorem zero_of {P : Program} {t : TypeId} {i : TypeInfo} {v : Value} (h : P.info? t = some i) (hz : i.zero = some v) (w : World) : (zeroValue t).run P w = .ok v w := by
  simp [zeroValue, typeInfo, h, hz]
theorem zero_at {t : TypeId} {v : Value} (h : (Tryd.prog.info? t).bind (·.zero) = some v) (w : World) : (zeroValue t).run Tryd.prog w = .ok v w := by
  cases hi : Tryd.prog.info? t with
  | none => rw [hi] at h; cases h
  | some i => rw [hi] at h; exact zero_of hi h w
set_option maxRecDepth 100000
theorem lay172 : Go.Proofs.LaysC.n172 Tryd.prog rho where
  mixed := by kernel_rfl
  f129 := by kernel_rfl
  f171 := by kernel_rfl
  f172 := by kernel_rfl
  f205 := by kernel_rfl
  f243 := by kernel_rfl
  f244 := by kernel_rfl
  f245 := by kernel_rfl
  f246 := by kernel_rfl
  f247 := by kernel_rfl
  f279 := by kernel_rfl
  f280 := by kernel_rfl
  f281 := by kernel_rfl
  f282 := by kernel_rfl
  f283 := by kernel_rfl
  f284 := by kernel_rfl
  f285 := by kernel_rfl
  f286 := by kernel_rfl
  f287 := by kernel_rfl
  f316 := by kernel_rfl
  f317 := by kernel_rfl
  f318 := by kernel_rfl
  f319 := by kernel_rfl
  f320 := by kernel_rfl
  f321 := by kernel_rfl
  f322 := by kernel_rfl
  f337 := by kernel_rfl
  f338 := by kernel_rfl
  t0 := by kernel_rfl
  a0 := fun w => isAgg_of (by kernel_rfl) w
  z0 := fun w => size_at (by kernel_rfl) (by kernel_rfl) w
  v0 := fun w => zero_at (by kernel_rfl) w
  t2 := by kernel_rfl
  a2 := fun w => isAgg_of (by kernel_rfl) w
  z2 := fun w => size_at (by kernel_rfl) (by kernel_rfl) w
  v2 := fun w => zero_at (by kernel_rfl) w
  t3 := by kernel_rfl
  a3 := fun w => isAgg_of (by kernel_rfl) w
  z3 := fun w => size_at (by kernel_rfl) (by kernel_rfl) w
  v3 := fun w => zero_at (by kernel_rfl) w
  t4 := by kernel_rfl
  a4 := fun w => isAgg_of (by kernel_rfl) w
  z4 := fun w => size_at (by kernel_rfl) (by kernel_rfl) w
  v4 := fun w => zero_at (by kernel_rfl) w
  t5 := by kernel_rfl
  a5 := fun w => isAgg_of (by kernel_rfl) w
  z5 := fun w => size_at (by kernel_rfl) (by kernel_rfl) w
  v5 := fun w => zero_at (by kernel_rfl) w
  t9 := by kernel_rfl
  a9 := fun w => isAgg_of (by kernel_rfl) w
  z9 := fun w => size_at (by kernel_rfl) (by kernel_rfl) w
  v9 := fun w => zero_at (by kernel_rfl) w
  t20 := by kernel_rfl
  a20 := fun w => isAgg_of (by kernel_rfl) w
  z20 := fun w => size_at (by kernel_rfl) (by kernel_rfl) w
  v20 := fun w => zero_at (by kernel_rfl) w
  t21 := by kernel_rfl
  a21 := fun w => isAgg_of (by kernel_rfl) w
  z21 := fun w => size_at (by kernel_rfl) (by kernel_rfl) w
  v21 := fun w => zero_at (by kernel_rfl) w
  t37 := by kernel_rfl
  a37 := fun w => isAgg_of (by kernel_rfl) w
  z37 := fun w => size_at (by kernel_rfl) (by kernel_rfl) w
  v37 := fun w => zero_at (by kernel_rfl) w
  t46 := by kernel_rfl
  a46 := fun w => isAgg_of (by kernel_rfl) w
  z46 := fun w => size_at (by kernel_rfl) (by kernel_rfl) w
  v46 := fun w => zero_at (by kernel_rfl) w
  t51 := by kernel_rfl
  a51 := fun w => isAgg_of (by kernel_rfl) w
  z51 := fun w => size_at (by kernel_rfl) (by kernel_rfl) w
  v51 := fun w => zero_at (by kernel_rfl) w
  t53 := by kernel_rfl
  a53 := fun w => isAgg_of (by kernel_rfl) w
  z53 := fun w => size_at (by kernel_rfl) (by kernel_rfl) w
  v53 := fun w => zero_at (by kernel_rfl) w
  t75 := by kernel_rfl
  a75 := fun w => isAgg_of (by kernel_rfl) w
  z75 := fun w => size_at (by kernel_rfl) (by kernel_rfl) w
  v75 := fun w => zero_at (by kernel_rfl) w
  t76 := by kernel_rfl
  a76 := fun w => isAgg_of (by kernel_rfl) w
  z76 := fun w => size_at (by kernel_rfl) (by kernel_rfl) w
  v76 := fun w => zero_at (by kernel_rfl) w
  t85 := by kernel_rfl
  a85 := fun w => isAgg_of (by kernel_rfl) w
  z85 := fun w => size_at (by kernel_rfl) (by kernel_rfl) w
  v85 := fun w => zero_at (by kernel_rfl) w
  t127 := by kernel_rfl
  a127 := fun w => isAgg_of (by kernel_rfl) w
  z127 := fun w => size_at (by kernel_rfl) (by kernel_rfl) w
  v127 := fun w => zero_at (by kernel_rfl) w
  t143 := by kernel_rfl
  a143 := fun w => isAgg_of (by kernel_rfl) w
  z143 := fun w => size_at (by kernel_rfl) (by kernel_rfl) w
  v143 := fun w => zero_at (by kernel_rfl) w
  t145 := by kernel_rfl
  a145 := fun w => isAgg_yes (by kernel_rfl) w
  z145 := fun w => size_at (by kernel_rfl) (by kernel_rfl) w
  v145 := fun w => zero_at (by kernel_rfl) w
  t167 := by kernel_rfl
  a167 := fun w => isAgg_of (by kernel_rfl) w
  z167 := fun w => size_at (by kernel_rfl) (by kernel_rfl) w
  v167 := fun w => zero_at (by kernel_rfl) w
  t168 := by kernel_rfl
  a168 := fun w => isAgg_of (by kernel_rfl) w
  z168 := fun w => size_at (by kernel_rfl) (by kernel_rfl) w
  v168 := fun w => zero_at (by kernel_rfl) w
  t171 := by kernel_rfl
  a171 := fun w => isAgg_yes (by kernel_rfl) w
  z171 := fun w => size_at (by kernel_rfl) (by kernel_rfl) w
  v171 := fun w => zero_at (by kernel_rfl) w
  t173 := by kernel_rfl
  a173 := fun w => isAgg_of (by kernel_rfl) w
  z173 := fun w => size_at (by kernel_rfl) (by kernel_rfl) w
  v173 := fun w => zero_at (by kernel_rfl) w
  t175 := by kernel_rfl
  a175 := fun w => isAgg_of (by kernel_rfl) w
  z175 := fun w => size_at (by kernel_rfl) (by kernel_rfl) w
  v175 := fun w => zero_at (by kernel_rfl) w
  t210 := by kernel_rfl
  a210 := fun w => isAgg_yes (by kernel_rfl) w
  z210 := fun w => size_at (by kernel_rfl) (by kernel_rfl) w
  v210 := fun w => zero_at (by kernel_rfl) w
  t212 := by kernel_rfl
  a212 := fun w => isAgg_yes (by kernel_rfl) w
  z212 := fun w => size_at (by kernel_rfl) (by kernel_rfl) w
  v212 := fun w => zero_at (by kernel_rfl) w
  t213 := by kernel_rfl
  a213 := fun w => isAgg_yes (by kernel_rfl) w
  z213 := fun w => size_at (by kernel_rfl) (by kernel_rfl) w
  t232 := by kernel_rfl
  a232 := fun w => isAgg_yes (by kernel_rfl) w
  z232 := fun w => size_at (by kernel_rfl) (by kernel_rfl) w
  v232 := fun w => zero_at (by kernel_rfl) w
  t233 := by kernel_rfl
  a233 := fun w => isAgg_yes (by kernel_rfl) w
  z233 := fun w => size_at (by kernel_rfl) (by kernel_rfl) w
  v233 := fun w => zero_at (by kernel_rfl) w
  g15 := by kernel_rfl
  g16 := by kernel_rfl
  g17 := by kernel_rfl
  g18 := by kernel_rfl
  g19 := by kernel_rfl
  t80 := by kernel_rfl
  a80 := fun w => isAgg_of (by kernel_rfl) w
  z80 := fun w => size_at (by kernel_rfl) (by kernel_rfl) w
  v80 := fun w => zero_at (by kernel_rfl) w
  i0 := by kernel_rfl
  i2 := by kernel_rfl
  i3 := by kernel_rfl
  i4 := by kernel_rfl
  i5 := by kernel_rfl
  i9 := by kernel_rfl
  i20 := by kernel_rfl
  i21 := by kernel_rfl
  i37 := by kernel_rfl
  i46 := by kernel_rfl
  i51 := by kernel_rfl
  i53 := by kernel_rfl
  i75 := by kernel_rfl
  i76 := by kernel_rfl
  i80 := by kernel_rfl
  i85 := by kernel_rfl
  i127 := by kernel_rfl
  i143 := by kernel_rfl
  i145 := by kernel_rfl
  i167 := by kernel_rfl
  i168 := by kernel_rfl
  i171 := by kernel_rfl
  i173 := by kernel_rfl
  i175 := by kernel_rfl
  i210 := by kernel_rfl
  i212 := by kernel_rfl
  i232 := by kernel_rfl
  i233 := by kernel_rfl
  m15 := by kernel_rfl
  m16 := by kernel_rfl
  m17 := by kernel_rfl
  m18 := by kernel_rfl
  m19 := by kernel_rfl
  c0 := by kernel_rfl
  c2 := by kernel_rfl
  c3 := by kernel_rfl
  c4 := by kernel_rfl
  c5 := by kernel_rfl
  c9 := by kernel_rfl
  c20 := by kernel_rfl
  c21 := by kernel_rfl
  c37 := by kernel_rfl
  c46 := by kernel_rfl
  c51 := by kernel_rfl
  c53 := by kernel_rfl
  c75 := by kernel_rfl
  c76 := by kernel_rfl
  c80 := by kernel_rfl
  c85 := by kernel_rfl
  c127 := by kernel_rfl
  c143 := by kernel_rfl
  c145 := by kernel_rfl
  c167 := by kernel_rfl
  c168 := by kernel_rfl
  c171 := by kernel_rfl
  c173 := by kernel_rfl
  c175 := by kernel_rfl
  c210 := by kernel_rfl
  c212 := by kernel_rfl
  c213 := by kernel_rfl
  c232 := by kernel_rfl
  c233 := by kernel_rfl
theorem lay171 : Go.Proofs.LaysM.n171 Tryd.prog rho where
  mixed := by kernel_rfl
  f129 := by kernel_rfl
  f171 := by kernel_rfl
  f243 := by kernel_rfl
  f246 := by kernel_rfl
  f283 := by kernel_rfl
  f284 := by kernel_rfl
  f285 := by kernel_rfl
  f286 := by kernel_rfl
  f317 := by kernel_rfl
  f318 := by kernel_rfl
  f319 := by kernel_rfl
  f320 := by kernel_rfl
  f337 := by kernel_rfl
  f338 := by kernel_rfl
  t0 := by kernel_rfl
  a0 := fun w => isAgg_of (by kernel_rfl) w
  z0 := fun w => size_at (by kernel_rfl) (by kernel_rfl) w
  v0 := fun w => zero_at (by kernel_rfl) w
  t2 := by kernel_rfl
  a2 := fun w => isAgg_of (by kernel_rfl) w
  z2 := fun w => size_at (by kernel_rfl) (by kernel_rfl) w
  v2 := fun w => zero_at (by kernel_rfl) w
  t3 := by kernel_rfl
  a3 := fun w => isAgg_of (by kernel_rfl) w
  z3 := fun w => size_at (by kernel_rfl) (by kernel_rfl) w
  v3 := fun w => zero_at (by kernel_rfl) w
  t4 := by kernel_rfl
  a4 := fun w => isAgg_of (by kernel_rfl) w
  z4 := fun w => size_at (by kernel_rfl) (by kernel_rfl) w
  v4 := fun w => zero_at (by kernel_rfl) w
  t5 := by kernel_rfl
  a5 := fun w => isAgg_of (by kernel_rfl) w
  z5 := fun w => size_at (by kernel_rfl) (by kernel_rfl) w
  v5 := fun w => zero_at (by kernel_rfl) w
  t9 := by kernel_rfl
  a9 := fun w => isAgg_of (by kernel_rfl) w
  z9 := fun w => size_at (by kernel_rfl) (by kernel_rfl) w
  v9 := fun w => zero_at (by kernel_rfl) w
  t20 := by kernel_rfl
  a20 := fun w => isAgg_of (by kernel_rfl) w
  z20 := fun w => size_at (by kernel_rfl) (by kernel_rfl) w
  v20 := fun w => zero_at (by kernel_rfl) w
  t37 := by kernel_rfl
  a37 := fun w => isAgg_of (by kernel_rfl) w
  z37 := fun w => size_at (by kernel_rfl) (by kernel_rfl) w
  v37 := fun w => zero_at (by kernel_rfl) w
  t46 := by kernel_rfl
  a46 := fun w => isAgg_of (by kernel_rfl) w
  z46 := fun w => size_at (by kernel_rfl) (by kernel_rfl) w
  v46 := fun w => zero_at (by kernel_rfl) w
  t51 := by kernel_rfl
  a51 := fun w => isAgg_of (by kernel_rfl) w
  z51 := fun w => size_at (by kernel_rfl) (by kernel_rfl) w
  v51 := fun w => zero_at (by kernel_rfl) w
  t53 := by kernel_rfl
  a53 := fun w => isAgg_of (by kernel_rfl) w
  z53 := fun w => size_at (by kernel_rfl) (by kernel_rfl) w
  v53 := fun w => zero_at (by kernel_rfl) w
  t171 := by kernel_rfl
  a171 := fun w => isAgg_yes (by kernel_rfl) w
  z171 := fun w => size_at (by kernel_rfl) (by kernel_rfl) w
  v171 := fun w => zero_at (by kernel_rfl) w
  t173 := by kernel_rfl
  a173 := fun w => isAgg_of (by kernel_rfl) w
  z173 := fun w => size_at (by kernel_rfl) (by kernel_rfl) w
  v173 := fun w => zero_at (by kernel_rfl) w
  t212 := by kernel_rfl
  a212 := fun w => isAgg_yes (by kernel_rfl) w
  z212 := fun w => size_at (by kernel_rfl) (by kernel_rfl) w
  v212 := fun w => zero_at (by kernel_rfl) w
  t213 := by kernel_rfl
  a213 := fun w => isAgg_yes (by kernel_rfl) w
  z213 := fun w => size_at (by kernel_rfl) (by kernel_rfl) w
  t232 := by kernel_rfl
  a232 := fun w => isAgg_yes (by kernel_rfl) w
  z232 := fun w => size_at (by kernel_rfl) (by kernel_rfl) w
  v232 := fun w => zero_at (by kernel_rfl) w
  t233 := by kernel_rfl
  a233 := fun w => isAgg_yes (by kernel_rfl) w
  z233 := fun w => size_at (by kernel_rfl) (by kernel_rfl) w
  v233 := fun w => zero_at (by kernel_rfl) w
  g17 := by kernel_rfl
  g18 := by kernel_rfl
  g19 := by kernel_rfl
  i0 := by kernel_rfl
  i2 := by kernel_rfl
  i3 := by kernel_rfl
  i4 := by kernel_rfl
  i5 := by kernel_rfl
  i9 := by kernel_rfl
  i20 := by kernel_rfl
  i37 := by kernel_rfl
  i46 := by kernel_rfl
  i51 := by kernel_rfl
  i53 := by kernel_rfl
  i171 := by kernel_rfl
  i173 := by kernel_rfl
  i212 := by kernel_rfl
  i232 := by kernel_rfl
  i233 := by kernel_rfl
  m17 := by kernel_rfl
  m18 := by kernel_rfl
  m19 := by kernel_rfl
theorem lay145 : Go.Proofs.Lays.n145 Tryd.prog rho where
  mixed := by kernel_rfl
  f145 := by kernel_rfl
  f217 := by kernel_rfl
  f219 := by kernel_rfl
  f220 := by kernel_rfl
  f224 := by kernel_rfl
  f225 := by kernel_rfl
  f266 := by kernel_rfl
  f267 := by kernel_rfl
  f314 := by kernel_rfl
  t3 := by kernel_rfl
  a3 := fun w => isAgg_of (by kernel_rfl) w
  z3 := fun w => size_at (by kernel_rfl) (by kernel_rfl) w
  v3 := fun w => zero_at (by kernel_rfl) w
  t4 := by kernel_rfl
  a4 := fun w => isAgg_of (by kernel_rfl) w
  z4 := fun w => size_at (by kernel_rfl) (by kernel_rfl) w
  v4 := fun w => zero_at (by kernel_rfl) w
  t5 := by kernel_rfl
  a5 := fun w => isAgg_of (by kernel_rfl) w
  z5 := fun w => size_at (by kernel_rfl) (by kernel_rfl) w
  v5 := fun w => zero_at (by kernel_rfl) w
  t9 := by kernel_rfl
  a9 := fun w => isAgg_of (by kernel_rfl) w
  z9 := fun w => size_at (by kernel_rfl) (by kernel_rfl) w
  v9 := fun w => zero_at (by kernel_rfl) w
  t46 := by kernel_rfl
  a46 := fun w => isAgg_of (by kernel_rfl) w
  z46 := fun w => size_at (by kernel_rfl) (by kernel_rfl) w
  v46 := fun w => zero_at (by kernel_rfl) w
  t51 := by kernel_rfl
  a51 := fun w => isAgg_of (by kernel_rfl) w
  z51 := fun w => size_at (by kernel_rfl) (by kernel_rfl) w
  v51 := fun w => zero_at (by kernel_rfl) w
  t59 := by kernel_rfl
  a59 := fun w => isAgg_of (by kernel_rfl) w
  z59 := fun w => size_at (by kernel_rfl) (by kernel_rfl) w
  v59 := fun w => zero_at (by kernel_rfl) w
  t146 := by kernel_rfl
  a146 := fun w => isAgg_of (by kernel_rfl) w
  z146 := fun w => size_at (by kernel_rfl) (by kernel_rfl) w
  v146 := fun w => zero_at (by kernel_rfl) w
  g1 := by kernel_rfl
theorem lay190 : Go.Proofs.Lays.n190 Tryd.prog rho where
  mixed := by kernel_rfl
  f125 := by kernel_rfl
  f128 := by kernel_rfl
  f129 := by kernel_rfl
  f190 := by kernel_rfl
  f258 := by kernel_rfl
  f302 := by kernel_rfl
  f303 := by kernel_rfl
  f304 := by kernel_rfl
  f305 := by kernel_rfl
  f306 := by kernel_rfl
  f307 := by kernel_rfl
  f308 := by kernel_rfl
  f309 := by kernel_rfl
  f310 := by kernel_rfl
  f329 := by kernel_rfl
  f330 := by kernel_rfl
  f333 := by kernel_rfl
  f334 := by kernel_rfl
  f335 := by kernel_rfl
  f336 := by kernel_rfl
  f344 := by kernel_rfl
  t0 := by kernel_rfl
  a0 := fun w => isAgg_of (by kernel_rfl) w
  z0 := fun w => size_at (by kernel_rfl) (by kernel_rfl) w
  v0 := fun w => zero_at (by kernel_rfl) w
  t3 := by kernel_rfl
  a3 := fun w => isAgg_of (by kernel_rfl) w
  z3 := fun w => size_at (by kernel_rfl) (by kernel_rfl) w
  v3 := fun w => zero_at (by kernel_rfl) w
  t4 := by kernel_rfl
  a4 := fun w => isAgg_of (by kernel_rfl) w
  z4 := fun w => size_at (by kernel_rfl) (by kernel_rfl) w
  v4 := fun w => zero_at (by kernel_rfl) w
  t5 := by kernel_rfl
  a5 := fun w => isAgg_of (by kernel_rfl) w
  z5 := fun w => size_at (by kernel_rfl) (by kernel_rfl) w
  v5 := fun w => zero_at (by kernel_rfl) w
  t9 := by kernel_rfl
  a9 := fun w => isAgg_of (by kernel_rfl) w
  z9 := fun w => size_at (by kernel_rfl) (by kernel_rfl) w
  v9 := fun w => zero_at (by kernel_rfl) w
  t31 := by kernel_rfl
  a31 := fun w => isAgg_of (by kernel_rfl) w
  z31 := fun w => size_at (by kernel_rfl) (by kernel_rfl) w
  v31 := fun w => zero_at (by kernel_rfl) w
  t46 := by kernel_rfl
  a46 := fun w => isAgg_of (by kernel_rfl) w
  z46 := fun w => size_at (by kernel_rfl) (by kernel_rfl) w
  v46 := fun w => zero_at (by kernel_rfl) w
  t51 := by kernel_rfl
  a51 := fun w => isAgg_of (by kernel_rfl) w
  z51 := fun w => size_at (by kernel_rfl) (by kernel_rfl) w
  v51 := fun w => zero_at (by kernel_rfl) w
  t53 := by kernel_rfl
  a53 := fun w => isAgg_of (by kernel_rfl) w
  z53 := fun w => size_at (by kernel_rfl) (by kernel_rfl) w
  v53 := fun w => zero_at (by kernel_rfl) w
  t131 := by kernel_rfl
  a131 := fun w => isAgg_of (by kernel_rfl) w
  z131 := fun w => size_at (by kernel_rfl) (by kernel_rfl) w
  v131 := fun w => zero_at (by kernel_rfl) w
  t182 := by kernel_rfl
  a182 := fun w => isAgg_of (by kernel_rfl) w
  z182 := fun w => size_at (by kernel_rfl) (by kernel_rfl) w
  v182 := fun w => zero_at (by kernel_rfl) w
  t183 := by kernel_rfl
  a183 := fun w => isAgg_of (by kernel_rfl) w
  z183 := fun w => size_at (by kernel_rfl) (by kernel_rfl) w
  v183 := fun w => zero_at (by kernel_rfl) w
  t218 := by kernel_rfl
  a218 := fun w => isAgg_of (by kernel_rfl) w
  z218 := fun w => size_at (by kernel_rfl) (by kernel_rfl) w
  v218 := fun w => zero_at (by kernel_rfl) w
  t222 := by kernel_rfl
  a222 := fun w => isAgg_of (by kernel_rfl) w
  z222 := fun w => size_at (by kernel_rfl) (by kernel_rfl) w
  v222 := fun w => zero_at (by kernel_rfl) w
  t228 := by kernel_rfl
  a228 := fun w => isAgg_of (by kernel_rfl) w
  z228 := fun w => size_at (by kernel_rfl) (by kernel_rfl) w
  v228 := fun w => zero_at (by kernel_rfl) w
  t229 := by kernel_rfl
  a229 := fun w => isAgg_of (by kernel_rfl) w
  z229 := fun w => size_at (by kernel_rfl) (by kernel_rfl) w
  v229 := fun w => zero_at (by kernel_rfl) w
theorem lay194 : Go.Proofs.Lays.n194 Tryd.prog rho where
  mixed := by kernel_rfl
  f194 := by kernel_rfl
  t0 := by kernel_rfl
  a0 := fun w => isAgg_of (by kernel_rfl) w
  z0 := fun w => size_at (by kernel_rfl) (by kernel_rfl) w
  v0 := fun w => zero_at (by kernel_rfl) w
  t3 := by kernel_rfl
  a3 := fun w => isAgg_of (by kernel_rfl) w
  z3 := fun w => size_at (by kernel_rfl) (by kernel_rfl) w
  v3 := fun w => zero_at (by kernel_rfl) w
  t4 := by kernel_rfl
  a4 := fun w => isAgg_of (by kernel_rfl) w
  z4 := fun w => size_at (by kernel_rfl) (by kernel_rfl) w
  v4 := fun w => zero_at (by kernel_rfl) w
  t9 := by kernel_rfl
  a9 := fun w => isAgg_of (by kernel_rfl) w
  z9 := fun w => size_at (by kernel_rfl) (by kernel_rfl) w
  v9 := fun w => zero_at (by kernel_rfl) w
  t31 := by kernel_rfl
  a31 := fun w => isAgg_of (by kernel_rfl) w
  z31 := fun w => size_at (by kernel_rfl) (by kernel_rfl) w
  v31 := fun w => zero_at (by kernel_rfl) w
end Go.Eng.Bk
/- Plain laws: numbers, texts, keys as bytes. -/
namespace Go.Eng.Bk
open Go Go.Eng
set_option linter.unusedVariables false
set_option linter.unusedSimpArgs false
theorem w64 {x : Int} (h0 : -9223372036854775808 ≤ x) (h1 : x ≤ 9223372036854775807) : IntKind.i64.wrap x = x := by
  have hb : IntKind.i64.bits = 64 := rfl
  have hs : IntKind.i64.signed = true := rfl
  unfold IntKind.wrap
  rw [hb, hs]
  simp only [Bool.true_and, decide_eq_true_eq]
  split <;> omega
theorem wu8 (x : Int) : IntKind.u8.wrap x = x % 256 := by
  have hb : IntKind.u8.bits = 8 := rfl
  have hs : IntKind.u8.signed = false := rfl
  unfold IntKind.wrap
  rw [hb, hs]
  simp
def Bytes (l : List Int) : Prop := ∀ x ∈ l, 0 ≤ x ∧ x ≤ 255
theorem Bytes.nil : Bytes [] := fun _ h => by cases h
theorem Bytes.append {a b : List Int} (ha : Bytes a) (hb : Bytes b) : Bytes (a ++ b) := fun x hx => by
  rcases List.mem_append.1 hx with h | h
  · exact ha x h
  · exact hb x h
theorem Bytes.drop {a : List Int} (ha : Bytes a) (n : Nat) : Bytes (a.drop n) := fun x hx => ha x (List.mem_of_mem_drop hx)
theorem Bytes.take {a : List Int} (ha : Bytes a) (n : Nat) : Bytes (a.take n) := fun x hx => ha x (List.mem_of_mem_take hx)
theorem Bytes.of_wf {l : List Int} (h : ∀ x ∈ l, (Lit.int .u8 x).wf = true) : Bytes l := fun x hx => by
  have := h x hx
  simp [Lit.wf, IntKind.min, IntKind.max, IntKind.signed, IntKind.bits] at this
  omega


theorem or128 (n : Nat) (h : n < 256) : IntKind.u8.wrap (((BitVec.ofInt IntKind.u8.bits (n : Int) ||| BitVec.ofInt IntKind.u8.bits (128 : Int)).toNat : Nat) : Int) = ((n % 128 + 128 : Nat) : Int) := by
  have : ∀ m : Fin 256, IntKind.u8.wrap (((BitVec.ofInt IntKind.u8.bits ((m.val : Nat) : Int) ||| BitVec.ofInt IntKind.u8.bits (128 : Int)).toNat : Nat) : Int) = ((m.val % 128 + 128 : Nat) : Int) := by decide +kernel
  exact this ⟨n, h⟩
theorem and127 (n : Nat) (h : n < 256) : IntKind.u8.wrap (((BitVec.ofInt IntKind.u8.bits (n : Int) &&& BitVec.ofInt IntKind.u8.bits (127 : Int)).toNat : Nat) : Int) = ((n % 128 : Nat) : Int) := by
  have : ∀ m : Fin 256, IntKind.u8.wrap (((BitVec.ofInt IntKind.u8.bits ((m.val : Nat) : Int) &&& BitVec.ofInt IntKind.u8.bits (127 : Int)).toNat : Nat) : Int) = ((m.val % 128 : Nat) : Int) := by decide +kernel
  exact this ⟨n, h⟩
theorem toNat_ofInt64 (a : Nat) (h : a < 9223372036854775808) : (BitVec.ofInt 64 (a : Int)).toNat = a := by
  rw [BitVec.toNat_ofInt]
  omega
theorem or_nat (a b : Nat) (ha : a < 9223372036854775808) (hb : b < 9223372036854775808) (h : a ||| b < 9223372036854775808) : IntKind.i64.wrap (((BitVec.ofInt IntKind.i64.bits (a : Int) ||| BitVec.ofInt IntKind.i64.bits (b : Int)).toNat : Nat) : Int) = ((a ||| b : Nat) : Int) := by
  have h1 : (BitVec.ofInt IntKind.i64.bits (a : Int) ||| BitVec.ofInt IntKind.i64.bits (b : Int)).toNat = a ||| b := by
    show (BitVec.ofInt 64 (a : Int) ||| BitVec.ofInt 64 (b : Int)).toNat = a ||| b
    rw [BitVec.toNat_or, toNat_ofInt64 a ha, toNat_ofInt64 b hb]
  rw [h1]
  exact w64 (by omega) (by omega)
theorem or_shift (a b i : Nat) (ha : a < 2 ^ i) (h : a + b * 2 ^ i < 9223372036854775808) : IntKind.i64.wrap (((BitVec.ofInt IntKind.i64.bits (a : Int) ||| BitVec.ofInt IntKind.i64.bits ((b * 2 ^ i : Nat) : Int)).toNat : Nat) : Int) = ((a + b * 2 ^ i : Nat) : Int) := by
  have h0 : a ||| b * 2 ^ i = a + b * 2 ^ i := by
    rw [Nat.or_comm, Nat.mul_comm b, ← Nat.two_pow_add_eq_or_of_lt ha, Nat.add_comm]
  rw [or_nat a (b * 2 ^ i) (by omega) (by omega) (by omega), h0]
theorem shl_nat (b i : Nat) (hi : i ≤ 64) (h : b * 2 ^ i < 9223372036854775808) : IntKind.i64.wrap ((b : Int) * 2 ^ (min ((i : Int)).toNat IntKind.i64.bits)) = ((b * 2 ^ i : Nat) : Int) := by
  have hb : IntKind.i64.bits = 64 := rfl
  rw [hb, show ((i : Int)).toNat = i from rfl, Nat.min_eq_left hi]
  have : (b : Int) * 2 ^ i = ((b * 2 ^ i : Nat) : Int) := by push_cast; rfl
  rw [this]
  exact w64 (by omega) (by omega)
/-- A number's bytes. -/
def enc (n : Nat) : List Int := if n < 128 then [(n : Int)] else ((n % 128 + 128 : Nat) : Int) :: enc (n / 128)
termination_by n
decreasing_by omega
theorem enc_lt {n : Nat} (h : n < 128) : enc n = [(n : Int)] := by unfold enc; rw [if_pos h]
theorem enc_ge {n : Nat} (h : ¬ n < 128) : enc n = ((n % 128 + 128 : Nat) : Int) :: enc (n / 128) := by
  conv => lhs; unfold enc
  rw [if_neg h]
theorem enc_bytes (n : Nat) : Bytes (enc n) := by
  induction n using Nat.strongRecOn with
  | _ n ih =>
    by_cases h : n < 128
    · rw [enc_lt h]
      intro x hx
      simp only [List.mem_singleton] at hx
      omega
    · rw [enc_ge h]
      intro x hx
      rcases List.mem_cons.1 hx with h1 | h1
      · omega
      · exact ih (n / 128) (by omega) x h1
theorem enc_length_pos (n : Nat) : 1 ≤ (enc n).length := by
  by_cases h : n < 128
  · rw [enc_lt h]; simp
  · rw [enc_ge h]; simp
theorem enc_length_le (d : Nat) : ∀ n, n < 128 ^ (d + 1) → (enc n).length ≤ d + 1 := by
  induction d with
  | zero => intro n h; rw [enc_lt (by simpa using h)]; simp
  | succ d ih =>
    intro n h
    by_cases h1 : n < 128
    · rw [enc_lt h1]; simp
    · rw [enc_ge h1]
      have := ih (n / 128) (by rw [Nat.pow_succ] at h; omega)
      simp only [List.length_cons]
      omega
theorem enc_length9 {n : Nat} (h : n < 9223372036854775808) : (enc n).length ≤ 9 := enc_length_le 8 n (by rw [show (128 : Nat) ^ (8 + 1) = 9223372036854775808 from by decide]; exact h)

/-- The number that a row of bytes begins with, and how many bytes it has; the bytes ahead are i, and come to acc. -/
def dec : Nat → Nat → List Int → Option (Nat × Nat)
  | _, _, [] => none
  | i, acc, c :: t => if i < 9 then (if c > 127 then dec (i + 1) (acc + (c.toNat % 128) * 128 ^ i) t else if c = 0 ∧ 0 < i then none else some (acc + c.toNat * 128 ^ i, i + 1)) else none

def getN (l : List Int) (at_ : Int) : Int × Int × Bool :=
  if at_ < 0 then (0, 0, false) else
    match dec 0 0 (l.drop at_.toNat) with
    | some (n, j) => ((n : Int), at_ + j, true)
    | none => (0, 0, false)

theorem drop_lt {l : List Int} {i : Nat} {c : Int} {t : List Int} (h : l.drop i = c :: t) : i < l.length := by
  rcases Nat.lt_or_ge i l.length with h1 | h1
  · exact h1
  · rw [List.drop_of_length_le h1] at h; cases h
theorem drop_succ {l : List Int} {i : Nat} {c : Int} {t : List Int} (h : l.drop i = c :: t) : l.drop (i + 1) = t := by
  have : l.drop (i + 1) = (l.drop i).drop 1 := by rw [List.drop_drop]
  rw [this, h]; rfl
theorem pow7 (i : Nat) : 128 ^ i = 2 ^ (7 * i) := by
  rw [show (128 : Nat) = 2 ^ 7 from rfl, ← Nat.pow_mul]

theorem dec_enc (d : Nat) : ∀ (n i acc : Nat) (rest : List Int), n < 128 ^ (d + 1) → i + d < 9 → (0 < i → 0 < n) → dec i acc (enc n ++ rest) = some (acc + n * 128 ^ i, i + (enc n).length) := by
  induction d with
  | zero =>
    intro n i acc rest hn hi h0
    have h1 : n < 128 := by simpa using hn
    rw [enc_lt h1]
    simp only [List.cons_append, List.nil_append, dec, Int.toNat_natCast, List.length_cons, List.length_nil]
    rw [if_pos (by omega), if_neg (by omega), if_neg (by omega)]
  | succ d ih =>
    intro n i acc rest hn hi h0
    by_cases h1 : n < 128
    · rw [enc_lt h1]
      simp only [List.cons_append, List.nil_append, dec, Int.toNat_natCast, List.length_cons, List.length_nil]
      rw [if_pos (by omega), if_neg (by omega), if_neg (by omega)]
    · rw [enc_ge h1]
      simp only [List.cons_append, dec, Int.toNat_natCast, List.length_cons]
      rw [if_pos (by omega), if_pos (by omega), ih (n / 128) (i + 1) _ rest (by rw [Nat.pow_succ] at hn; omega) (by omega) (by omega)]
      have e1 : (n % 128 + 128) % 128 = n % 128 := by omega
      rw [e1]
      congr 1
      have e2 : acc + n % 128 * 128 ^ i + n / 128 * 128 ^ (i + 1) = acc + n * 128 ^ i := by
        rw [Nat.pow_succ, Nat.add_assoc, show n / 128 * (128 ^ i * 128) = (n / 128 * 128) * 128 ^ i from by rw [Nat.mul_comm (128 ^ i), Nat.mul_assoc], ← Nat.add_mul]
        congr 2
        omega
      rw [e2, show i + 1 + (enc (n / 128)).length = i + ((enc (n / 128)).length + 1) from by omega]
theorem getN_enc {n : Nat} (hn : n < 9223372036854775808) (pre rest : List Int) : getN (pre ++ (enc n ++ rest)) (pre.length : Int) = ((n : Int), (pre.length : Int) + (enc n).length, true) := by
  unfold getN
  rw [if_neg (by omega)]
  simp only [Int.toNat_natCast, List.drop_left]
  rw [dec_enc 8 n 0 0 rest (by rw [show (128 : Nat) ^ (8 + 1) = 9223372036854775808 from by decide]; exact hn) (by omega) (by omega)]
  simp

theorem enc_inj {a b : Nat} (h : enc a = enc b) : a = b := by
  induction a using Nat.strongRecOn generalizing b with
  | _ a ih =>
    by_cases ha : a < 128 <;> by_cases hb : b < 128
    · rw [enc_lt ha, enc_lt hb] at h
      simp only [List.cons.injEq] at h
      omega
    · rw [enc_lt ha, enc_ge hb] at h
      simp only [List.cons.injEq] at h
      omega
    · rw [enc_ge ha, enc_lt hb] at h
      simp only [List.cons.injEq] at h
      omega
    · rw [enc_ge ha, enc_ge hb] at h
      simp only [List.cons.injEq] at h
      have := ih (a / 128) (by omega) h.2
      omega
theorem bytesOf_length (s : ByteArray) : (bytesOf s).length = s.size := by unfold bytesOf; rw [List.length_map, Array.length_toList]; rfl
theorem ba_toList (s : ByteArray) : s.toList = s.data.toList := ByteArray.toList_eq s
theorem ba_ext {a b : ByteArray} (h : a.toList = b.toList) : a = b := by
  rw [ba_toList, ba_toList] at h
  cases a; cases b
  congr
  exact Array.toList_inj.1 h
theorem strOf_toList (l : List Int) : (strOf l).toList = l.map fun n => UInt8.ofNat n.toNat := by rw [ba_toList]; rfl
theorem bytesOf_bytes (s : ByteArray) : Bytes (bytesOf s) := by
  intro x hx
  unfold bytesOf at hx
  obtain ⟨b, _, rfl⟩ := List.mem_map.1 hx
  have := b.toNat_lt
  omega
theorem strOf_bytesOf (s : ByteArray) : strOf (bytesOf s) = s := by
  apply ba_ext
  rw [strOf_toList, ba_toList]
  unfold bytesOf
  rw [List.map_map]
  conv => rhs; rw [← List.map_id s.data.toList]
  apply List.map_congr_left
  intro b _
  simp
theorem bytesOf_strOf {l : List Int} (h : Bytes l) : bytesOf (strOf l) = l := by
  unfold bytesOf
  rw [← ba_toList, strOf_toList, List.map_map]
  conv => rhs; rw [← List.map_id l]
  apply List.map_congr_left
  intro x hx
  have := h x hx
  simp only [Function.comp_apply, UInt8.toNat_ofNat', id]
  omega
theorem bytesOf_inj {a b : ByteArray} (h : bytesOf a = bytesOf b) : a = b := by
  rw [← strOf_bytesOf a, ← strOf_bytesOf b, h]
theorem strOf_inj {a b : List Int} (ha : Bytes a) (hb : Bytes b) (h : strOf a = strOf b) : a = b := by
  rw [← bytesOf_strOf ha, ← bytesOf_strOf hb, h]
theorem strOf_len (l : List Int) : (strOf l).size = l.length := by simp [strOf, ByteArray.size]
theorem dec_bound : ∀ (l : List Int) (i acc v j : Nat), dec i acc l = some (v, j) → acc < 128 ^ i → Bytes l → v < 128 ^ j ∧ i < j ∧ j ≤ 9 ∧ j ≤ i + l.length
  | [], i, acc, v, j, h, _, _ => by simp [dec] at h
  | c :: t, i, acc, v, j, h, ha, hb => by
    have hc := hb c (by simp)
    simp only [dec] at h
    split at h
    case isFalse => cases h
    rename_i hi
    split at h
    · have hm : (c.toNat % 128) * 128 ^ i ≤ 127 * 128 ^ i := Nat.mul_le_mul_right _ (by omega)
      have := dec_bound t (i + 1) _ v j h (by rw [Nat.pow_succ]; omega) (fun x hx => hb x (by simp [hx]))
      simp only [List.length_cons]
      omega
    · split at h
      · cases h
      · simp only [Option.some.injEq, Prod.mk.injEq] at h
        obtain ⟨rfl, rfl⟩ := h
        have hm : c.toNat * 128 ^ i ≤ 127 * 128 ^ i := Nat.mul_le_mul_right _ (by omega)
        simp only [List.length_cons]
        refine ⟨?_, by omega, by omega, by omega⟩
        rw [Nat.pow_succ]; omega
theorem getN_cases {l : List Int} (hl : Bytes l) (at_ : Int) : (getN l at_ = (0, 0, false)) ∨ ∃ (p n j : Nat), at_ = p ∧ dec 0 0 (l.drop p) = some (n, j) ∧ getN l at_ = ((n : Int), ((p + j : Nat) : Int), true) ∧ n < 9223372036854775808 ∧ 1 ≤ j ∧ j ≤ 9 ∧ p + j ≤ l.length := by
  unfold getN
  by_cases h : at_ < 0
  · left; rw [if_pos h]
  · rw [if_neg h]
    cases hd : dec 0 0 (l.drop at_.toNat) with
    | none => left; rfl
    | some q =>
      obtain ⟨n, j⟩ := q
      right
      have hb := dec_bound _ 0 0 n j hd (by simp) (hl.drop _)
      have h9 : (128 : Nat) ^ j ≤ 128 ^ 9 := Nat.pow_le_pow_right (by omega) (by omega)
      have : (128 : Nat) ^ 9 = 9223372036854775808 := by decide
      rw [List.length_drop] at hb
      refine ⟨at_.toNat, n, j, by omega, hd, ?_, by omega, by omega, by omega, by omega⟩
      have : at_ + (j : Int) = ((at_.toNat + j : Nat) : Int) := by omega
      show ((n : Int), at_ + (j : Int), true) = _
      rw [this]

/-- A text that stands at a place. -/
def getT (l : List Int) (at_ : Int) : ByteArray × Int × Bool :=
  if (getN l at_).2.2 = true then (if (getN l at_).1 > (l.length : Int) - (getN l at_).2.1 then (⟨#[]⟩, 0, false) else
    (strOf ((l.take ((getN l at_).2.1 + (getN l at_).1).toNat).drop (getN l at_).2.1.toNat), (getN l at_).2.1 + (getN l at_).1, true)) else (⟨#[]⟩, 0, false)
theorem getT_cases {l : List Int} (hl : Bytes l) (at_ : Int) : (getT l at_ = (⟨#[]⟩, 0, false)) ∨ ∃ (p n j : Nat), at_ = p ∧ dec 0 0 (l.drop p) = some (n, j) ∧ getT l at_ = (strOf ((l.take (p + j + n)).drop (p + j)), ((p + j + n : Nat) : Int), true) ∧ 1 ≤ j ∧ j ≤ 9 ∧ p + j + n ≤ l.length := by
  unfold getT
  rcases getN_cases hl at_ with h | ⟨p, n, j, rfl, hd, h, hn, h1, h9, hp⟩
  · left; rw [h]; rfl
  · rw [h]
    simp only [if_true]
    by_cases hc : (n : Int) > (l.length : Int) - ((p + j : Nat) : Int)
    · left; rw [if_pos hc]
    · right
      rw [if_neg hc]
      refine ⟨p, n, j, rfl, hd, ?_, h1, h9, by omega⟩
      have e : ((p + j : Nat) : Int) + (n : Int) = ((p + j + n : Nat) : Int) := by omega
      rw [e]
      simp only [Int.toNat_natCast]
theorem getT_enc {s : ByteArray} (hs : s.size ≤ 70368744177664) (pre rest : List Int) : getT (pre ++ (enc s.size ++ (bytesOf s ++ rest))) (pre.length : Int) = (s, ((pre.length + (enc s.size).length + s.size : Nat) : Int), true) := by
  unfold getT
  rw [getN_enc (by omega)]
  simp only [if_true]
  have hb : (bytesOf s).length = s.size := bytesOf_length s
  rw [if_neg (by simp only [List.length_append, hb]; omega)]
  have e : (pre.length : Int) + ((enc s.size).length : Int) + (s.size : Int) = ((pre.length + (enc s.size).length + s.size : Nat) : Int) := by omega
  have e2 : (pre.length : Int) + ((enc s.size).length : Int) = ((pre.length + (enc s.size).length : Nat) : Int) := by omega
  rw [e, e2]
  simp only [Int.toNat_natCast]
  have e3 : pre ++ (enc s.size ++ (bytesOf s ++ rest)) = (pre ++ enc s.size) ++ (bytesOf s ++ rest) := by rw [List.append_assoc]
  rw [e3, List.drop_take, List.drop_left' (by simp)]
  have e4 : pre.length + (enc s.size).length + s.size - (pre.length + (enc s.size).length) = (bytesOf s).length := by rw [hb]; omega
  rw [e4, List.take_left, strOf_bytesOf]

/-- Whether a key may be. -/
def mayB (u : ByteArray) (s k : Int) : Bool := decide ((u.size : Int) ≤ 64 ∧ 0 ≤ s ∧ s ≤ 9007199254740992 ∧ (k = 1 ∨ k = 2))
theorem mayB_true {u : ByteArray} {s k : Int} (h : mayB u s k = true) : (u.size : Int) ≤ 64 ∧ 0 ≤ s ∧ s ≤ 9007199254740992 ∧ (k = 1 ∨ k = 2) := of_decide_eq_true h

theorem getN_num {l : List Int} (hl : Bytes l) (at_ : Int) : ∃ n : Nat, (getN l at_).1 = n ∧ n < 9223372036854775808 := by
  rcases getN_cases hl at_ with h | ⟨p, n, j, _, _, h, hn, _⟩
  · exact ⟨0, by rw [h]; rfl, by omega⟩
  · exact ⟨n, by rw [h], hn⟩
end Go.Eng.Bk
/- Small lemmas that all the walks need. -/
namespace Go.Eng.Bk
open Go Go.Proofs Go.Eng
set_option linter.unusedVariables false
set_option linter.unusedSimpArgs false
theorem bnd {α β : Type} {o : Option α} {x : α} {f : α → Option β} {r : Option β} (h : o = some x) (h2 : f x = r) : o.bind f = r := by rw [h]; exact h2
theorem cif {α : Type} (b : Bool) (x y : α) : (bif b then x else y) = if b = true then x else y := by cases b <;> rfl
theorem bT {c : Prop} [Decidable c] {α : Type} {x y : α} (h : c) : (bif decide c then x else y) = x := by rw [decide_eq_true h]; rfl
theorem bF {c : Prop} [Decidable c] {α : Type} {x y : α} (h : ¬ c) : (bif decide c then x else y) = y := by rw [decide_eq_false h]; rfl
theorem getD_drop {l : List Int} {i : Nat} {c : Int} {t : List Int} (h : l.drop i = c :: t) (d : Int) : l.getD i d = c := by
  have : l[i]? = some c := by
    have := congrArg (fun x => x[0]?) h
    simpa using this
  rw [List.getD_eq_getElem?_getD, this]; rfl
/-- Rooms are no matter. -/
abbrev room : Nat := 140737488355328
theorem callS (k : Nat) (f : FuncId) (args : List AV) : callN B (k + 1) f args = stepN B (callN B k) (lvl B k).2 k f args := by kernel_rfl
theorem wu64 {x : Int} (h0 : 0 ≤ x) (h1 : x < 18446744073709551616) : IntKind.u64.wrap x = x := by
  have hb : IntKind.u64.bits = 64 := rfl
  have hs : IntKind.u64.signed = false := rfl
  unfold IntKind.wrap
  rw [hb, hs]
  simp
  omega
theorem drop_cons {α : Type} {l : List α} {i : Nat} (h : i < l.length) : ∃ c t, l.drop i = c :: t ∧ c ∈ l := by
  cases hd : l.drop i with
  | nil => exact absurd (List.drop_eq_nil_iff.1 hd) (by omega)
  | cons c t => exact ⟨c, t, rfl, List.mem_of_mem_drop (by rw [hd]; simp : c ∈ l.drop i)⟩
theorem dsucc {α : Type} {l : List α} {i : Nat} {c : α} {t : List α} (h : l.drop i = c :: t) : l.drop (i + 1) = t := by
  have : l.drop (i + 1) = (l.drop i).drop 1 := by rw [List.drop_drop]
  rw [this, h]; rfl
theorem dgetD {α : Type} {l : List α} {i : Nat} {c : α} {t : List α} (h : l.drop i = c :: t) (d : α) : l.getD i d = c := by
  have : l[i]? = some c := by
    have := congrArg (fun x => x[0]?) h
    simpa using this
  rw [List.getD_eq_getElem?_getD, this]; rfl
theorem getD_mem {α : Type} {l : List α} {i : Nat} (h : i < l.length) (d : α) : l.getD i d ∈ l := by
  rw [List.getD_eq_getElem?_getD, List.getElem?_eq_getElem h]
  exact List.getElem_mem h
theorem getD_lt' {α : Type} {l : List α} {i : Nat} (h : i < l.length) (d : α) : l.getD i d = l[i] := by
  rw [List.getD_eq_getElem?_getD, List.getElem?_eq_getElem h]; rfl
theorem lvl2 (k : Nat) : (lvl B (k + 1)).2 = inlN B (callN B k) (lvl B k).2 k := by kernel_rfl
end Go.Eng.Bk
/- strconv.Itoa, strings.Cut, name.number: their contracts. -/
namespace Go.Eng.Bk
open Go Go.Proofs Go.Eng Go.RowKit Go.Shelf Go.Sort
set_option linter.unusedVariables false
set_option linter.unusedSimpArgs false
set_option maxRecDepth 100000
theorem below_grow {B : Nat} {w : World} {q : Nat} {os : Array Obj} (hB : B ≤ w.heap.size) : Below B w (grow (w.drewN q) os) :=
  ⟨rfl, rfl, rfl, by show w.heap.size ≤ (w.heap ++ os).size; rw [Array.size_append]; omega, fun k hk => by show (w.heap ++ os)[k]? = _; rw [Array.getElem?_append_left (by omega)]⟩
theorem V_str {w : World} {N : Nat → Prop} {s : ByteArray} {u : Value} (h : V (argVw w N) (.v .str s) u) : u = .string s := by
  have h' : [u] = [_] := h
  exact (List.cons.inj h').1
theorem V_i64 {w : World} {N : Nat → Prop} {n : Int} {u : Value} (h : V (argVw w N) (.v (.int .i64) n) u) : u = .int .i64 n := by
  have h' : [u] = [_] := h
  exact (List.cons.inj h').1
theorem pow_at {w : World} (h : okW w) : Lib.TabIs Tryd.prog w "internal/strconv.uint64pow10" .u64 Lib.pow10Tab := h.pow _ lay171.m17
theorem con30 {n : Int} (h0 : -9223372036854775808 ≤ n) (h1 : n ≤ 9223372036854775807) : CallOk Tryd.prog (shOf 30) 30 [.v (.int .i64) n] (itoaB n) := by
  refine .inl ⟨⟨Tryd.f30, Tryd.func30, by kernel_rfl, rfl⟩, fun w N vargs hok hv => ?_⟩
  match vargs, hv with
  | [u], ⟨hu, _⟩ =>
  rw [V_i64 hu]
  refine (Any.strconv_Itoa lay171 n h0 h1 w (pow_at hok)).mono ?_
  rintro e w' ⟨rfl, k, os, rfl⟩
  exact ⟨_, rfl, below_grow (Nat.le_refl _), ⟨⟨_, rfl, rfl⟩, rfl⟩, List.nodup_nil⟩
theorem con25 {s p : ByteArray} (hs : s.size < 4294967281) : CallOk Tryd.prog (shOf 25) 25 [.v .str s, .v .str p] (cutB s p) := by
  refine .inl ⟨⟨Tryd.f25, Tryd.func25, by kernel_rfl, rfl⟩, fun w N vargs hok hv => ?_⟩
  match vargs, hv with
  | [u, v], ⟨hu, hv, _⟩ =>
  rw [V_str hu, V_str hv]
  obtain ⟨m, hm⟩ := hok.len 0 (by kernel_rfl)
  refine (Any.strings_Cut lay145 s p m w hs hm).mono ?_
  rintro e w' ⟨rfl, k, rfl⟩
  exact ⟨_, rfl, ⟨rfl, rfl, rfl, Nat.le_refl _, fun _ _ => rfl⟩, _, rfl, ⟨⟨_, rfl, rfl⟩, ⟨_, rfl, rfl⟩, ⟨_, rfl, rfl⟩, rfl⟩, List.nodup_nil⟩
theorem atoi_bounds {l : List UInt8} {v : Int} (h : Lib.atoiAll l = .ok v) : -9223372036854775808 ≤ v ∧ v ≤ 9223372036854775807 := Lib.atoiAll_bounds h
theorem itoa_eq (v : Int) (s : ByteArray) : (Lib.itoa v == s.toList) = decide (itoaB v = s) := by
  by_cases h : itoaB v = s
  · rw [decide_eq_true h, ← h, ba_toList]
    simp [itoaB]
  · rw [decide_eq_false h]
    refine beq_eq_false_iff_ne.2 (fun e => h ?_)
    refine ba_ext ?_
    rw [← e, ba_toList]
    rfl
theorem num_calls (s : ByteArray) (hlim : s.size ≤ 281474976710656) (w : World) (hok : okW w) :
    Calls Tryd.prog 26 #[.string s] w fun e w' => e = .returned (.tuple #[.int .i64 (numB s).1, .bool (numB s).2.1]) ∧ Below w.heap.size w w' := by
  obtain ⟨ev0, hv0, he0⟩ := hok.syn _ lay172.m15
  obtain ⟨ev1, hv1, he1⟩ := hok.rng _ lay172.m16
  cases h : Lib.atoiAll s.data.toList with
  | ok v =>
    obtain ⟨b0, b1⟩ := atoi_bounds h
    have hr : numB s = (v, (decide (0 ≤ v ∧ v ≤ 9007199254740992) && decide (itoaB v = s)), ()) := by unfold numB; rw [h]
    rw [hr]
    obtain ⟨rb, hrb⟩ : ∃ rb, (decide (0 ≤ v ∧ v ≤ 9007199254740992) && decide (itoaB v = s)) = rb := ⟨_, rfl⟩
    rw [hrb]
    go_enter Tryd.func26, Tryd.ntmps26
    go_wp2_with (go_at_call 40; refine (Any.strconv_Atoi_ok lay172 s (by omega) v h _).mono ?_; rintro e w' ⟨rfl, hw⟩)
    have hb : Below w.heap.size w w' := by
      rcases hw with rfl | ⟨t, rfl⟩
      · exact Below.refl _ _
      · exact Lib.bytesWorld_below _ _ _
    have htab := pow_at (hok.below hb)
    clear hw
    go_wp2_with (first | (go_at_call 30; refine (Any.strconv_Itoa lay171 v b0 b1 _ htab).mono ?_; rintro e w2 ⟨rfl, k, os, rfl⟩) | go_in)
    · rename_i g0 g1
      go_ret2
      have e : rb = (Lib.itoa v == s.toList) := by rw [← hrb, itoa_eq, decide_eq_true (⟨g0, g1⟩ : 0 ≤ v ∧ v ≤ 9007199254740992), Bool.true_and]
      rw [e]
      exact ⟨rfl, hb.trans (below_grow hb.size)⟩
    · rename_i g0 g1
      go_ret2
      have e : rb = false := by rw [← hrb, decide_eq_false (fun h : 0 ≤ v ∧ v ≤ 9007199254740992 => by omega), Bool.false_and]
      rw [e]
      exact ⟨rfl, hb⟩
    · rename_i g0
      go_ret2
      have e : rb = false := by rw [← hrb, decide_eq_false (fun h : 0 ≤ v ∧ v ≤ 9007199254740992 => by omega), Bool.false_and]
      rw [e]
      exact ⟨rfl, hb⟩
  | range =>
    have hr : numB s = (Lib.atoiSat s.data.toList, false, ()) := by unfold numB; rw [h]
    rw [hr]
    go_enter Tryd.func26, Tryd.ntmps26
    go_wp2_with (go_at_call 40; refine (Any.strconv_Atoi_range lay172 s hlim h ev1 _ ?_ he1).mono ?_)
    · exact hv1
    rintro e W1 ⟨N, rfl, -, -, hb⟩
    go_wp2
    go_ret2
    exact ⟨rfl, hb⟩
  | _ =>
    have hr : numB s = (0, false, ()) := by unfold numB; rw [h]
    rw [hr]
    go_enter Tryd.func26, Tryd.ntmps26
    go_wp2_with (go_at_call 40; refine (Any.strconv_Atoi_syntax lay172 s hlim h ev0 _ ?_ he0).mono ?_)
    · exact hv0
    rintro e W1 ⟨N, rfl, -, -, hb⟩
    go_wp2
    go_ret2
    exact ⟨rfl, hb⟩
theorem con26 {s : ByteArray} (hs : s.size ≤ 281474976710656) : CallOk Tryd.prog (shOf 26) 26 [.v .str s] (numB s) := by
  refine .inl ⟨⟨Tryd.f26, Tryd.func26, by kernel_rfl, rfl⟩, fun w N vargs hok hv => ?_⟩
  match vargs, hv with
  | [u], ⟨hu, _⟩ =>
  rw [V_str hu]
  refine (num_calls s hs w hok).mono ?_
  rintro e w' ⟨rfl, hb⟩
  exact ⟨_, rfl, hb, _, rfl, ⟨⟨_, rfl, rfl⟩, ⟨_, rfl, rfl⟩, rfl⟩, List.nodup_nil⟩
end Go.Eng.Bk
/- refs.rising: its contract over the memory. -/
namespace Go.Eng.Bk
open Go Go.Proofs Go.Eng Go.RowKit Go.Shelf Go.Sort
set_option linter.unusedVariables false
set_option linter.unusedSimpArgs false
def rho2 : Go.Shelf.Ren := ⟨fun f => match f with
    | 16 => 48
    | x => x, fun t => match t with
    | 24 => 31
    | x => x, fun g => g⟩
theorem lay16 : Go.Proofs.Lays2.n16 Tryd.prog rho2 where
  mixed := by kernel_rfl
  f16 := by kernel_rfl
  t4 := by kernel_rfl
  a4 := fun w => isAgg_of (by kernel_rfl) w
  z4 := fun w => size_at (by kernel_rfl) (by kernel_rfl) w
  v4 := fun w => zero_at (by kernel_rfl) w
  t9 := by kernel_rfl
  a9 := fun w => isAgg_of (by kernel_rfl) w
  z9 := fun w => size_at (by kernel_rfl) (by kernel_rfl) w
  v9 := fun w => zero_at (by kernel_rfl) w
  t24 := by kernel_rfl
  a24 := fun w => isAgg_of (by kernel_rfl) w
  z24 := fun w => size_at (by kernel_rfl) (by kernel_rfl) w
  v24 := fun w => zero_at (by kernel_rfl) w
  i9 := by kernel_rfl
theorem len_zero (w : World) : Calls Tryd.prog 58 #[.int .u64 0] w fun e w' => e = .returned (.int .i64 0) ∧ w' = w :=
  calls_of_every_depth fun D => AnyS.bits_LenInS { lay190 with } D 0 w (by omega) (by omega)
theorem ins_none (p : Option Addr) (cap : Nat) (w : World) :
    Calls Tryd.prog 72 #[.slice p 0 cap, .int .i64 0, .int .i64 0] w fun e w' => e = .returned (.tuple #[]) ∧ w' = w := by
  go_enter Tryd.func72, Tryd.ntmps72
  go_wp2
  refine wp_loop_rounds 1 ?_
  rw [rounds_succ]
  go_wp2
  go_end0
  exact ⟨rfl, rfl⟩
set_option maxRecDepth 100000 in
theorem pdq_none (p : Option Addr) (cap : Nat) (w : World) :
    Calls Tryd.prog 57 #[.slice p 0 cap, .int .i64 0, .int .i64 0, .int .i64 0] w fun e w' => e = .returned (.tuple #[]) ∧ w' = w := by
  go_enter Tryd.func57, Tryd.ntmps57
  go_wp2
  refine wp_loop_rounds 1 ?_
  rw [rounds_succ]
  go_wp2_with (first | (go_at_call 72; refine (ins_none p cap _).mono ?_; rintro e w' ⟨rfl, rfl⟩))
  refine bodyPost_ret (results_none rfl _ _ _) rfl ?_
  exact ⟨rfl, rfl⟩
set_option maxRecDepth 100000 in
theorem sort_none (p : Option Addr) (cap : Nat) (w : World) :
    Calls Tryd.prog 47 #[.slice p 0 cap] w fun e w' => e = .returned (.tuple #[]) ∧ w' = w := by
  go_enter Tryd.func47, Tryd.ntmps47
  go_wp2_with (first
    | (go_at_call 58; refine (len_zero _).mono ?_; rintro e w' ⟨rfl, rfl⟩)
    | (go_at_call 57; refine (pdq_none p cap _).mono ?_; rintro e w' ⟨rfl, rfl⟩))
  go_end0
  exact ⟨rfl, rfl⟩
end Go.Eng.Bk
/- refs.rising: names in order, each once. -/
namespace Go.Eng.Bk
open Go Go.Proofs Go.Eng Go.RowKit Go.Shelf Go.Sort
set_option linter.unusedVariables false
set_option linter.unusedSimpArgs false
set_option maxRecDepth 100000
/-- All stands but one block, and new ones. -/
structure Turned (g : Nat) (w w' : World) : Prop where
  os : w'.os = w.os
  tape : w'.tape = w.tape
  output : w'.output = w.output
  size : w.heap.size ≤ w'.heap.size
  block : ∀ k, k < w.heap.size → k ≠ g → w'.heap[k]? = w.heap[k]?
theorem Turned.trans {g : Nat} {a b c : World} (h : Turned g a b) (k : Turned g b c) : Turned g a c :=
  ⟨k.os.trans h.os, k.tape.trans h.tape, k.output.trans h.output, Nat.le_trans h.size k.size, fun i hi hg => (k.block i (Nat.lt_of_lt_of_le hi h.size) hg).trans (h.block i hi hg)⟩
theorem Turned.of_below {g : Nat} {w w' : World} (h : Below w.heap.size w w') : Turned g w w' := ⟨h.os, h.tape, h.output, h.size, fun k hk _ => h.block k hk⟩
theorem Turned.below {g B : Nat} {a w w' : World} (h : Turned g w w') (hb : Below B a w) (hg : B ≤ g) (hB : B ≤ w.heap.size) : Below B a w' :=
  ⟨h.os.trans hb.os, h.tape.trans hb.tape, h.output.trans hb.output, Nat.le_trans hb.size h.size, fun k hk => (h.block k (Nat.lt_of_lt_of_le hk hB) (by omega)).trans (hb.block k hk)⟩
theorem turned_put (w : World) (n g off : Nat) (d : Array (List UInt8)) (os : Array Obj) : Turned g w (grow (putRow encStr (Sort.ahead w n) g off d) os) := by
  refine ⟨rfl, rfl, rfl, by simp, fun k hk hg => ?_⟩
  rw [heap_grow_old _ _ (by simpa using hk)]
  show (w.heap.modify g _)[k]? = _
  rw [Array.getElem?_modify, if_neg (Ne.symm hg)]
theorem rising_calls {w : World} {B : Nat} {l : List ByteArray} {v : Value} (ho : w.ownsRow B 9 1 v l.length (l.map Value.string)) (hn : l.length * 16 ≤ 140737488355328) :
    Calls Tryd.prog 35 #[v] w fun e w' => ∃ u, e = .returned u ∧ (∀ g, v.ownBlock = some g → Turned g w w') ∧ (v.ownBlock = none → Below w.heap.size w w') ∧ w'.ownsRow w.heap.size 9 1 u (rising l).length ((rising l).map Value.string) := by
  have hzero : ∀ (p : Option Addr) (cap : Nat) (w' : World) (u : Value), l = [] → w'.ownsRow w.heap.size 9 1 u 0 [] → w'.ownsRow w.heap.size 9 1 u (rising l).length ((rising l).map Value.string) := by
    rintro p cap w' u rfl h
    have e : rising [] = [] := by unfold rising sortB; rw [List.map_nil, List.mergeSort_nil]; rfl
    rw [e]
    exact h
  rcases ho.2 with ⟨rfl, h0⟩ | ⟨g, cap, cur, rfl, hg, hh, hn', hcm, hcs, htk⟩
  · have hl : l = [] := List.eq_nil_of_length_eq_zero h0
    go_enter Tryd.func35, Tryd.ntmps35
    go_wp2_with (first
      | (go_at_call 47; refine (sort_none none 0 _).mono ?_; rintro e w' ⟨rfl, rfl⟩)
      | (go_at_call 49; refine (Any.slices_Compact_string_empty lay194 none 0 _).mono ?_; rintro e w' ⟨rfl, rfl⟩)
      | (go_at_call 48; refine (Any.slices_Clone_string_nil lay16 0 0 _).mono ?_; rintro e w' ⟨rfl, rfl⟩))
    go_ret
    exact ⟨_, rfl, fun g hg => by simp [Value.ownBlock] at hg, fun _ => Below.refl _ _, hzero none 0 _ _ hl ⟨rfl, .inl ⟨rfl, rfl⟩⟩⟩
  · have hgw : g < w.heap.size := (Array.getElem?_eq_some_iff.1 hh).1
    by_cases h0 : l.length = 0
    · have hl : l = [] := List.eq_nil_of_length_eq_zero h0
      rw [h0]
      go_enter Tryd.func35, Tryd.ntmps35
      go_wp2_with (first
        | (go_at_call 47; refine (sort_none (some ⟨g, 0, none⟩) cap _).mono ?_; rintro e w' ⟨rfl, rfl⟩)
        | (go_at_call 49; refine (Any.slices_Compact_string_empty lay194 (some ⟨g, 0, none⟩) cap _).mono ?_; rintro e w' ⟨rfl, rfl⟩)
        | (go_at_call 48; refine (Any.slices_Clone_string_zero lay16 ⟨g, 0, none⟩ cap _).mono ?_; rintro e w' ⟨u, rfl, hu, _, hb⟩))
      go_ret
      exact ⟨_, rfl, fun g hg => .of_below hb, fun _ => hb, hzero none 0 _ _ hl hu⟩
    · have hsl : ∀ x ∈ ([] : List Nat), False := fun x h => by cases h
      have hH : Holds encStr w g 0 (l.map fun s => s.data.toList).toArray := by
        intro j hj
        have hj' : j < l.length := by simpa using hj
        have e : (l.map fun s => s.data.toList).toArray[j]! = l[j].data.toList := by
          rw [getElem!_pos _ j hj]
          simp
        refine ⟨?_, ?_⟩
        · have hadd : (⟨g, 0, none⟩ : Addr).add j = ⟨g, 0 + j, none⟩ := by unfold Addr.add; split <;> simp_all
          rw [← hadd, e]
          refine ho.cells rfl j _ ?_
          rw [List.getElem?_map, List.getElem?_eq_getElem hj']
          rfl
        · simp only [World.frozen?, hh]
          simp
      have hlen : (l.map fun s => s.data.toList).length = l.length := List.length_map _
      obtain ⟨zs, hzs⟩ : ∃ zs, (l.map fun s => s.data.toList) = zs := ⟨_, rfl⟩
      rw [hzs] at hH hlen
      obtain ⟨ys, hys⟩ : ∃ ys, (zs.mergeSort fun x y => decide (x ≤ y)) = ys := ⟨_, rfl⟩
      have hyl : ys.length = l.length := by rw [← hys, List.length_mergeSort, hlen]
      obtain ⟨us, hus⟩ : ∃ us, Lib.compact ys = us := ⟨_, rfl⟩
      have hul : us.length ≤ l.length := by rw [← hus, ← hyl]; exact Lib.compact_length_le ys
      have hr : rising l = us.map fun u => ByteArray.mk u.toArray := by
        unfold rising sortB cmpct
        rw [hzs, hys, List.map_map]
        rw [show (fun s : ByteArray => s.data.toList) ∘ (fun u : List UInt8 => ByteArray.mk u.toArray) = id from rfl, List.map_id, hus]
      have hS : Calls Tryd.prog 47 #[.slice (some ⟨g, 0, none⟩) l.length cap] w fun e w' => e = .returned (.tuple #[]) ∧ ∃ n os, w' = grow (putRow encStr (Sort.ahead w n) g 0 ys.toArray) os := by
        have h := Any.slices_Sort_string lay190 g 0 cap zs w hH hgw (by omega)
        rw [hlen, hys] at h
        exact h
      obtain ⟨xs, hxs⟩ : ∃ xs, us ++ List.replicate (l.length - us.length) [] = xs := ⟨_, rfl⟩
      have hxl : xs.length = l.length := by rw [← hxs, List.length_append, List.length_replicate]; omega
      have hC : ∀ w1, Holds encStr w1 g 0 ys.toArray → Calls Tryd.prog 49 #[.slice (some ⟨g, 0, none⟩) l.length cap] w1 fun e w' => e = .returned (.slice (some ⟨g, 0, none⟩) us.length cap) ∧ ∃ q, w' = putRow encStr (Sort.ahead w1 q) g 0 xs.toArray := by
        intro w1 h1
        have h := Any.slices_Compact_string lay194 g 0 cap ys w1 h1 (by omega) (by omega)
        rw [hyl, hus, hxs] at h
        exact h
      have hrl : (rising l).length = us.length := by rw [hr, List.length_map]
      have hD : ∀ w2, Holds encStr w2 g 0 xs.toArray → Calls Tryd.prog 48 #[.slice (some ⟨g, 0, none⟩) us.length cap] w2 fun e w' => ∃ v', e = .returned v' ∧ w'.ownsRow w2.heap.size 9 1 v' (rising l).length ((rising l).map Value.string) ∧ Below w2.heap.size w2 w' := by
        intro w2 h2
        refine (Any.slices_Clone_string lay16 g 0 us.length cap (rising l) w2 (by omega) (by omega) (fun j hj => ?_)).mono ?_
        · have hj2 : j < us.length := by omega
          have := (h2 j (by rw [List.size_toArray]; omega)).1
          rw [this, getElem!_pos _ j (by rw [List.size_toArray]; omega)]
          have e1 : xs.toArray[j]'(by rw [List.size_toArray]; omega) = us[j] := by
            rw [List.getElem_toArray]
            subst hxs
            exact List.getElem_append_left hj2
          rw [e1]
          show some (Value.string _) = some (Value.string _)
          rw [List.getD_eq_getElem?_getD, hr, List.getElem?_map, List.getElem?_eq_getElem hj2]
          rfl
        · rintro e w' ⟨v', rfl, h3, _, h4⟩
          rw [List.take_of_length_le (by omega), ← hrl] at h3
          exact ⟨v', rfl, h3, h4⟩
      have hh1 : ∀ (q1 : Nat) (os : Array Obj), Holds encStr (grow (putRow encStr (Sort.ahead w q1) g 0 ys.toArray) os) g 0 ys.toArray := fun q1 os =>
        holds_grow _ _ _ _ _ _ (by simpa using hgw) (holds_putRow encStr (Sort.ahead w q1) g 0 zs.toArray ys.toArray hH (by rw [List.size_toArray, List.size_toArray]; omega))
      have hh2 : ∀ (w1 : World) (q : Nat), Holds encStr w1 g 0 ys.toArray → Holds encStr (putRow encStr (Sort.ahead w1 q) g 0 xs.toArray) g 0 xs.toArray := fun w1 q h =>
        holds_putRow encStr (Sort.ahead w1 q) g 0 ys.toArray xs.toArray h (by rw [List.size_toArray, List.size_toArray]; omega)
      go_enter Tryd.func35, Tryd.ntmps35
      go_wp2_with (first
        | (go_at_call 47; refine hS.mono ?_; rintro e w1 ⟨rfl, q1, os, rfl⟩)
        | (go_at_call 49; refine (hC _ (hh1 q1 os)).mono ?_; rintro e w2 ⟨rfl, q2, rfl⟩)
        | (go_at_call 48; refine (hD _ (hh2 _ q2 (hh1 q1 os))).mono ?_; rintro e w3 ⟨v', rfl, h3, h4⟩))
      go_ret
      have ht1 := turned_put w q1 g 0 ys.toArray os
      have ht2 := turned_put (grow (putRow encStr (Sort.ahead w q1) g 0 ys.toArray) os) q2 g 0 xs.toArray #[]
      rw [grow_empty] at ht2
      have ht := (ht1.trans ht2).trans (Turned.of_below h4)
      refine ⟨_, rfl, fun g' hg' => ?_, fun h => by simp [Value.ownBlock] at h, ?_⟩
      · have : g = g' := by simpa [Value.ownBlock] using hg'
        subst this
        exact ht
      · refine ⟨h3.1, h3.2.imp id ?_⟩
        rintro ⟨g2, c2, cur2, e1, e2, e3⟩
        exact ⟨g2, c2, cur2, e1, Nat.le_trans (ht1.trans ht2).size e2, e3⟩
end Go.Eng.Bk
/- Texts in order, each once. -/
namespace Go.Eng.Bk
open Go Go.Proofs Go.Eng
set_option linter.unusedVariables false
set_option linter.unusedSimpArgs false
theorem l_irr (a : List UInt8) : ¬ a < a := List.lt_irrefl a
theorem l_trans {a b c : List UInt8} (h : a < b) (k : b < c) : a < c := List.lt_trans h k
theorem l_tri (a b : List UInt8) : a < b ∨ a = b ∨ b < a := by
  by_cases h : a < b
  · exact .inl h
  · by_cases k : b < a
    · exact .inr (.inr k)
    · exact .inr (.inl (List.le_antisymm (List.not_lt.1 k) (List.not_lt.1 h)))
theorem l_le {a b : List UInt8} : a ≤ b ↔ a < b ∨ a = b := by
  constructor
  · intro h
    rcases l_tri a b with k | k | k
    · exact .inl k
    · exact .inr k
    · exact absurd k (List.not_lt.2 h)
  · rintro (h | rfl)
    · exact List.not_lt.1 (fun k => l_irr _ (l_trans h k))
    · exact List.not_lt.1 (l_irr _)
/-- One text ahead of another. -/
def Lt (a b : ByteArray) : Prop := a.data.toList < b.data.toList
instance (a b : ByteArray) : Decidable (Lt a b) := by unfold Lt; infer_instance
theorem Lt.irr (a : ByteArray) : ¬ Lt a a := l_irr _
theorem Lt.trans {a b c : ByteArray} (h : Lt a b) (k : Lt b c) : Lt a c := l_trans h k
theorem Lt.tri (a b : ByteArray) : Lt a b ∨ a = b ∨ Lt b a := by
  rcases l_tri a.data.toList b.data.toList with h | h | h
  · exact .inl h
  · exact .inr (.inl (ba_ext (by rw [ba_toList, ba_toList, h])))
  · exact .inr (.inr h)
theorem less_dec (a b : ByteArray) : Op.bytesLess (ByteArray.toList a) (ByteArray.toList b) = decide (Lt a b) := by
  rw [bytesLess_eq, ba_toList, ba_toList]
  rfl
/-- rising, each once -/
abbrev Ris (l : List ByteArray) : Prop := l.Pairwise Lt
theorem ris_uniq : ∀ {l m : List ByteArray}, Ris l → Ris m → (∀ x, x ∈ l ↔ x ∈ m) → l = m
  | [], [], _, _, _ => rfl
  | [], y :: m, _, _, h => absurd ((h y).2 List.mem_cons_self) (List.not_mem_nil)
  | x :: l, [], _, _, h => absurd ((h x).1 List.mem_cons_self) (List.not_mem_nil)
  | x :: l, y :: m, hl, hm, h => by
    obtain ⟨a1, a2⟩ := List.pairwise_cons.1 hl
    obtain ⟨b1, b2⟩ := List.pairwise_cons.1 hm
    have e : x = y := by
      rcases List.mem_cons.1 ((h x).1 List.mem_cons_self) with k | k
      · exact k
      · rcases List.mem_cons.1 ((h y).2 List.mem_cons_self) with k2 | k2
        · exact k2.symm
        · exact absurd ((b1 x k).trans (a1 y k2)) (Lt.irr _)
    subst e
    rw [ris_uniq a2 b2 (fun z => ?_)]
    have hz := h z
    simp only [List.mem_cons] at hz
    constructor
    · intro k
      rcases hz.1 (.inr k) with e | e
      · subst e; exact absurd (a1 z k) (Lt.irr _)
      · exact e
    · intro k
      rcases hz.2 (.inr k) with e | e
      · subst e; exact absurd (b1 z k) (Lt.irr _)
      · exact e
/-- A text laid into a rising row, once. -/
def putS : List ByteArray → ByteArray → List ByteArray
  | [], s => [s]
  | x :: r, s => if Lt x s then x :: putS r s else if x = s then x :: r else s :: x :: r
theorem putS_mem (s : ByteArray) : ∀ (l : List ByteArray) (x : ByteArray), x ∈ putS l s ↔ x = s ∨ x ∈ l
  | [], x => by simp [putS]
  | y :: r, x => by
    unfold putS
    by_cases h1 : Lt y s
    · rw [if_pos h1, List.mem_cons, putS_mem s r x, List.mem_cons]
      constructor
      · rintro (h | h | h)
        · exact .inr (.inl h)
        · exact .inl h
        · exact .inr (.inr h)
      · rintro (h | h | h)
        · exact .inr (.inl h)
        · exact .inl h
        · exact .inr (.inr h)
    · rw [if_neg h1]
      by_cases h2 : y = s
      · rw [if_pos h2]
        constructor
        · exact .inr
        · rintro (h | h)
          · rw [h, h2]; exact List.mem_cons_self
          · exact h
      · rw [if_neg h2, List.mem_cons]
theorem putS_ris (s : ByteArray) : ∀ (l : List ByteArray), Ris l → Ris (putS l s)
  | [], _ => List.pairwise_singleton _ _
  | y :: r, h => by
    obtain ⟨a1, a2⟩ := List.pairwise_cons.1 h
    unfold putS
    by_cases h1 : Lt y s
    · rw [if_pos h1]
      refine List.pairwise_cons.2 ⟨fun z hz => ?_, putS_ris s r a2⟩
      rcases (putS_mem s r z).1 hz with rfl | hz
      · exact h1
      · exact a1 z hz
    · rw [if_neg h1]
      by_cases h2 : y = s
      · rw [if_pos h2]; exact h
      · rw [if_neg h2]
        have h3 : Lt s y := by rcases Lt.tri y s with k | k | k; exact absurd k h1; exact absurd k h2; exact k
        refine List.pairwise_cons.2 ⟨fun z hz => ?_, h⟩
        rcases List.mem_cons.1 hz with rfl | hz
        · exact h3
        · exact h3.trans (a1 z hz)
theorem keeps_iff {zs : List (List UInt8)} {j : Nat} (hj : j < zs.length) : Lib.keeps zs.toArray j = true ↔ j = 0 ∨ zs[j - 1]'(by omega) ≠ zs[j] := by
  unfold Lib.keeps
  have e1 : zs.toArray[j]! = zs[j] := by rw [getElem!_pos _ j (by rw [List.size_toArray]; exact hj), List.getElem_toArray]
  have e2 : zs.toArray[j - 1]! = zs[j - 1]'(by omega) := by rw [getElem!_pos _ (j - 1) (by rw [List.size_toArray]; omega), List.getElem_toArray]
  rw [e1, e2, decide_eq_true_iff]
  exact or_congr Iff.rfl ⟨Ne.symm, Ne.symm⟩
theorem compact_mem {zs : List (List UInt8)} (x : List UInt8) : x ∈ Lib.compact zs ↔ x ∈ zs := by
  have key : ∀ j, (hj : j < zs.length) → zs[j] ∈ Lib.compact zs := by
    intro j
    induction j with
    | zero =>
      intro hj
      unfold Lib.compact Lib.compactUpTo
      refine List.mem_map.2 ⟨0, List.mem_filter.2 ⟨List.mem_range.2 hj, (keeps_iff hj).2 (.inl rfl)⟩, ?_⟩
      rw [getElem!_pos _ 0 (by rw [List.size_toArray]; exact hj), List.getElem_toArray]
    | succ j ih =>
      intro hj
      by_cases hk : Lib.keeps zs.toArray (j + 1) = true
      · unfold Lib.compact Lib.compactUpTo
        refine List.mem_map.2 ⟨j + 1, List.mem_filter.2 ⟨List.mem_range.2 hj, hk⟩, ?_⟩
        rw [getElem!_pos _ (j + 1) (by rw [List.size_toArray]; exact hj), List.getElem_toArray]
      · have hne := fun h => hk ((keeps_iff hj).2 (.inr h))
        have e : zs[j]'(by omega) = zs[j + 1] := Classical.byContradiction fun h => hne h
        rw [← e]
        exact ih (by omega)
  constructor
  · intro h
    unfold Lib.compact Lib.compactUpTo at h
    obtain ⟨j, hj, rfl⟩ := List.mem_map.1 h
    have hj' := List.mem_range.1 (List.mem_filter.1 hj).1
    rw [getElem!_pos _ j (by rw [List.size_toArray]; exact hj'), List.getElem_toArray]
    exact List.getElem_mem hj'
  · intro h
    obtain ⟨j, hj, rfl⟩ := List.getElem_of_mem h
    exact key j hj
theorem compact_ris {zs : List (List UInt8)} (hs : zs.Pairwise (fun a b => a ≤ b)) : (Lib.compact zs).Pairwise (fun a b => a < b) := by
  unfold Lib.compact Lib.compactUpTo
  refine List.pairwise_map.2 ?_
  refine List.Pairwise.imp_of_mem ?_ (List.Pairwise.filter _ (List.pairwise_lt_range (n := zs.length)))
  intro i j hi hj hij
  have hi' := List.mem_range.1 (List.mem_filter.1 hi).1
  have hj' := List.mem_range.1 (List.mem_filter.1 hj).1
  have hk := (keeps_iff hj').1 (List.mem_filter.1 hj).2
  rw [getElem!_pos _ i (by rw [List.size_toArray]; exact hi'), getElem!_pos _ j (by rw [List.size_toArray]; exact hj'), List.getElem_toArray, List.getElem_toArray]
  have hne := hk.resolve_left (by omega)
  have h1 : zs[j - 1]'(by omega) ≤ zs[j] := List.pairwise_iff_getElem.1 hs (j - 1) j (by omega) hj' (by omega)
  have h2 : zs[j - 1]'(by omega) < zs[j] := (l_le.1 h1).resolve_right hne
  by_cases he : i = j - 1
  · subst he; exact h2
  · have h3 : zs[i] ≤ zs[j - 1]'(by omega) := List.pairwise_iff_getElem.1 hs i (j - 1) hi' (by omega) (by omega)
    rcases l_le.1 h3 with h | h
    · exact l_trans h h2
    · rw [h]; exact h2
theorem sort_ris (l : List ByteArray) : ((l.map fun s => s.data.toList).mergeSort fun x y => decide (x ≤ y)).Pairwise (fun a b => a ≤ b) := by
  refine (List.pairwise_mergeSort (le := fun x y => decide (x ≤ y)) (fun a b c h1 h2 => ?_) (fun a b => ?_) _).imp (fun h => of_decide_eq_true h)
  · have h1' := of_decide_eq_true h1
    have h2' := of_decide_eq_true h2
    refine decide_eq_true ?_
    rcases l_le.1 h1' with h | h
    · rcases l_le.1 h2' with k | k
      · exact l_le.2 (.inl (l_trans h k))
      · exact l_le.2 (.inl (k ▸ h))
    · exact h ▸ h2'
  · rcases l_tri a b with h | h | h
    · rw [decide_eq_true (l_le.2 (.inl h))]; rfl
    · rw [decide_eq_true (l_le.2 (.inr h))]; rfl
    · rw [decide_eq_true (p := b ≤ a) (l_le.2 (.inl h))]; simp
theorem rising_ris (l : List ByteArray) : Ris (rising l) := by
  have h := compact_ris (sort_ris l)
  unfold rising cmpct sortB Ris
  rw [List.map_map, show (fun s : ByteArray => s.data.toList) ∘ (fun u : List UInt8 => ByteArray.mk u.toArray) = id from rfl, List.map_id]
  exact List.pairwise_map.2 h
theorem rising_mem (l : List ByteArray) (x : ByteArray) : x ∈ rising l ↔ x ∈ l := by
  unfold rising cmpct sortB
  rw [List.map_map, show (fun s : ByteArray => s.data.toList) ∘ (fun u : List UInt8 => ByteArray.mk u.toArray) = id from rfl, List.map_id]
  constructor
  · intro h
    obtain ⟨u, hu, rfl⟩ := List.mem_map.1 h
    obtain ⟨y, hy, rfl⟩ := List.mem_map.1 ((List.mergeSort_perm _ _).mem_iff.1 ((compact_mem u).1 hu))
    exact hy
  · intro h
    exact List.mem_map.2 ⟨x.data.toList, (compact_mem _).2 ((List.mergeSort_perm _ _).mem_iff.2 (List.mem_map.2 ⟨x, h, rfl⟩)), rfl⟩
theorem fold_put (xs : List ByteArray) : ∀ l : List ByteArray, Ris l → Ris (xs.foldl putS l) ∧ ∀ x, x ∈ xs.foldl putS l ↔ x ∈ l ∨ x ∈ xs := by
  induction xs with
  | nil => intro l h; exact ⟨h, fun x => by simp⟩
  | cons y xs ih =>
    intro l h
    obtain ⟨h1, h2⟩ := ih (putS l y) (putS_ris y l h)
    refine ⟨h1, fun x => ?_⟩
    rw [List.foldl_cons, h2, putS_mem, List.mem_cons]
    constructor
    · rintro ((h | h) | h)
      · exact .inr (.inl h)
      · exact .inl h
      · exact .inr (.inr h)
    · rintro (h | h | h)
      · exact .inl (.inr h)
      · exact .inl (.inl h)
      · exact .inr h
/-- In order and once: by sorting, or one by one. -/
theorem fold_rising (xs : List ByteArray) : xs.foldl putS [] = rising xs := by
  obtain ⟨h1, h2⟩ := fold_put xs [] List.Pairwise.nil
  refine ris_uniq h1 (rising_ris xs) (fun x => ?_)
  rw [h2, rising_mem]
  simp
end Go.Eng.Bk
/- What the machine answers at some functions of the program: printed by the generator, each checked by the kernel. -/
namespace Go.Eng.Bk
open Go Go.Proofs Go.Eng
set_option linter.unusedVariables false
set_option maxRecDepth 100000
section
variable (call : CallT B) (inl : InlT) (m : Nat)
/-! function 56 -/
theorem t56 (a0 : Tab) : stepN B call inl m 56 [argAV TabT a0] = (bif decide (a0.fst ≥ (1 : Int)) == true then ((call 31 [(.v (.int .i64) (a0.fst))]).bind fun (v0 : Bool) => bif v0 == true then ((call 31 [(.v (.int .i64) (a0.snd.fst))]).bind fun (v1 : Bool) => bif v1 == true then (bif decide (a0.snd.snd.fst ≥ (0 : Int)) == true then (bif decide (a0.snd.snd.fst < (5 : Int)) == true then (bif decide ((↑(ByteArray.size a0.snd.snd.snd.fst) : Int) ≤ (64 : Int)) == true then (bif decide ((↑(ByteArray.size a0.snd.snd.snd.snd.fst) : Int) ≤ (64 : Int)) == true then (bif (Op.bytesLess (ByteArray.toList a0.snd.snd.snd.fst) (ByteArray.toList a0.snd.snd.snd.snd.fst) || ByteArray.toList a0.snd.snd.snd.fst == ByteArray.toList a0.snd.snd.snd.snd.fst) == true then (bif decide (a0.snd.snd.snd.snd.snd.fst ≥ (0 : Int)) == true then (bif decide (a0.snd.snd.snd.snd.snd.fst ≤ (1048576 : Int)) == true then (bif decide (a0.snd.snd.snd.snd.snd.snd.fst ≥ (1 : Int)) == true then (bif decide (a0.snd.snd.snd.snd.snd.snd.fst ≤ (256 : Int)) == true then (bif a0.snd.snd.snd.snd.snd.snd.snd.fst == false then (some (a0.snd.snd.snd.snd.snd.snd.snd.snd.fst)) else (some (true))) else (some (false))) else (some (false))) else (some (false))) else (some (false))) else (some (false))) else (some (false))) else (some (false))) else (some (false))) else (some (false))) else (some (false))) else (some (false))) else (some (false)) : Option Bool) := by kernel_rfl
/-! function 45 -/
def s45_1 (a0 : (List Tab)) (a1 : Int) (x0 : Int) : St := { t := [(.v (.sl TabT) (a0)), (.v (.int .i64) (a1)), .bad, .bad, .bad, (.v (.int .i64) (x0)), .bad, .bad, .bad, .bad, .bad, .bad, .bad, .bad, .bad, .bad, .bad, .bad, .bad, .bad], bx := [], live := 0, g := [] }
def s45_1x2 (y0 : Int) : St := { t := [.bad, .bad, .bad, .bad, (.v (.int .i64) (y0)), .bad, .bad, .bad, .bad, .bad, .bad, .bad, .bad, .bad, .bad, .bad, .bad, .bad, .bad, .bad], bx := [none, none, none, none, none, none, none, none, none, none, none, none, none], live := 0, g := [] }
def s45_1x3 : St := { t := [.bad, .bad, .bad, .bad, .bad, .bad, .bad, .bad, .bad, .bad, .bad, .bad, .bad, .bad, .bad, .bad, .bad, .bad, .bad, .bad], bx := [none, none, none, none], live := 0, g := [] }
theorem s45_1_l {R : Type} (K : AEx → St → Option R) (a0 : (List Tab)) (a1 : Int) (x0 : Int) : LP B call inl 45 (m + 1) [1, 0, 1] (s45_1 a0 a1 x0) K = (bif decide (x0 < (↑(List.length a0) : Int)) then (if (0 : Int) ≤ x0 ∧ x0 < (↑(List.length a0) : Int) then (bif (List.getD a0 x0.toNat ((0 : Int), (0 : Int), (0 : Int), (ByteArray.mk #[]), (ByteArray.mk #[]), (0 : Int), (0 : Int), false, false, ())).fst == a1 then (K .ret (s45_1x2 x0)) else (LP B call inl 45 m [1, 0, 1] (s45_1 a0 a1 (IntKind.i64.wrap (x0 + (1 : Int)))) K)) else (none)) else (K (.exit 0) (s45_1x3 ))) := by kernel_rfl
theorem s45_1x2_k (x0 : Int) : (KA B call inl 45 m [1, 0, 1] (FI B call inl 45)) .ret (s45_1x2 x0) = (some (x0)) := by kernel_rfl
theorem s45_1x3_k : (KA B call inl 45 m [1, 0, 1] (FI B call inl 45)) (.exit 0) (s45_1x3 ) = (some ((-1 : Int))) := by kernel_rfl
theorem t45 (a0 : (List Tab)) (a1 : Int) : stepN B call inl m 45 [argAV (.sl TabT) a0, argAV (.int .i64) a1] = (LP B call inl 45 m [1, 0, 1] (s45_1 a0 a1 ((0 : Int))) (KA B call inl 45 m [1, 0, 1] (FI B call inl 45)) : Option Int) := by kernel_rfl
/-! function 46 -/
def s46_1 (a0 : (List Tab)) (a1 : Tab) (x0 : Int) : St := { t := [(.v (.sl TabT) (a0)), .bad, .bad, (.ptr 0 0), .nilS, (.v (.int .i64) (x0)), (.raw undef), .bad, .bad, .bad, .bad, .bad, .bad, .bad, .bad, .bad, .bad, .bad, .bad, .bad, .bad, .bad, .bad, .bad, .bad, .bad, .bad, .bad, .bad, .bad, .bad, .bad, .bad, .bad, .bad, .bad, .bad, .bad, .bad, .bad, .bad, .bad, .bad, (.raw undef), (.raw undef), (.raw undef), (.raw undef), (.raw undef), (.raw undef), (.raw undef), (.raw undef), (.raw undef), (.raw undef), (.raw undef), (.raw undef), (.raw undef), (.raw undef)], bx := [(some (45, [(.v (.int .i64) (a1.fst)), (.v (.int .i64) (a1.snd.fst)), (.v (.int .i64) (a1.snd.snd.fst)), (.v .str (a1.snd.snd.snd.fst)), (.v .str (a1.snd.snd.snd.snd.fst)), (.v (.int .i64) (a1.snd.snd.snd.snd.snd.fst)), (.v (.int .i64) (a1.snd.snd.snd.snd.snd.snd.fst)), (.v .bool (a1.snd.snd.snd.snd.snd.snd.snd.fst)), (.v .bool (a1.snd.snd.snd.snd.snd.snd.snd.snd.fst))]))], live := 0, g := [] }
def s46_1x2 (y0 : (List Tab)) (y1 : Tab) (y2 : Int) : St := { t := [(.v (.sl TabT) (y0)), .bad, .bad, (.ptr 0 0), .nilS, (.v (.int .i64) (y2)), (.raw undef), .bad, .bad, .bad, .bad, .bad, .bad, .bad, .bad, .bad, .bad, .bad, .bad, .bad, .bad, .bad, .bad, .bad, .bad, .bad, .bad, .bad, .bad, .bad, .bad, .bad, .bad, .bad, .bad, .bad, .bad, .bad, .bad, .bad, .bad, .bad, .bad, (.raw undef), (.raw undef), (.raw undef), (.raw undef), (.raw undef), (.raw undef), (.raw undef), (.raw undef), (.raw undef), (.raw undef), (.raw undef), (.raw undef), (.raw undef), (.raw undef)], bx := [(some (45, [(.v (.int .i64) (y1.fst)), (.v (.int .i64) (y1.snd.fst)), (.v (.int .i64) (y1.snd.snd.fst)), (.v .str (y1.snd.snd.snd.fst)), (.v .str (y1.snd.snd.snd.snd.fst)), (.v (.int .i64) (y1.snd.snd.snd.snd.snd.fst)), (.v (.int .i64) (y1.snd.snd.snd.snd.snd.snd.fst)), (.v .bool (y1.snd.snd.snd.snd.snd.snd.snd.fst)), (.v .bool (y1.snd.snd.snd.snd.snd.snd.snd.snd.fst))])), none, none, none, none, none, none, none, none, none, none, none, none, none, none, none, none, none, none, none, none, none, none, none, none, none, none, none, none, none, none, none, none, none, none], live := 0, g := [] }
theorem s46_1_l {R : Type} (K : AEx → St → Option R) (a0 : (List Tab)) (a1 : Tab) (x0 : Int) : LP B call inl 46 (m + 1) [1, 1, 0] (s46_1 a0 a1 x0) K = (bif decide (x0 < (↑(List.length a0) : Int)) == true then (if (0 : Int) ≤ x0 ∧ x0 < (↑(List.length a0) : Int) then (bif decide ((List.getD a0 x0.toNat ((0 : Int), (0 : Int), (0 : Int), (ByteArray.mk #[]), (ByteArray.mk #[]), (0 : Int), (0 : Int), false, false, ())).snd.snd.fst < a1.snd.snd.fst) == false then (if (0 : Int) ≤ x0 ∧ x0 < (↑(List.length a0) : Int) then (bif ((List.getD a0 x0.toNat ((0 : Int), (0 : Int), (0 : Int), (ByteArray.mk #[]), (ByteArray.mk #[]), (0 : Int), (0 : Int), false, false, ())).snd.snd.fst == a1.snd.snd.fst) == true then (if (0 : Int) ≤ x0 ∧ x0 < (↑(List.length a0) : Int) then (bif decide ((List.getD a0 x0.toNat ((0 : Int), (0 : Int), (0 : Int), (ByteArray.mk #[]), (ByteArray.mk #[]), (0 : Int), (0 : Int), false, false, ())).fst < a1.fst) then (LP B call inl 46 m [1, 1, 0] (s46_1 a0 a1 (IntKind.i64.wrap (x0 + (1 : Int)))) K) else (K (.exit 0) (s46_1x2 a0 a1 x0))) else (none)) else (K (.exit 0) (s46_1x2 a0 a1 x0))) else (none)) else (LP B call inl 46 m [1, 1, 0] (s46_1 a0 a1 (IntKind.i64.wrap (x0 + (1 : Int)))) K)) else (none)) else (K (.exit 0) (s46_1x2 a0 a1 x0))) := by kernel_rfl
theorem s46_1x2_k (a0 : (List Tab)) (a1 : Tab) (x0 : Int) : (KA B call inl 46 m [1, 1, 0] (FI B call inl 46)) (.exit 0) (s46_1x2 a0 a1 x0) = (if (0 : Int) ≤ x0 ∧ x0 ≤ (↑(List.length a0) : Int) then (if ((0 : Nat) + (List.drop (0 : Nat) (List.take x0.toNat a0)).length) * (80 : Nat) ≤ 140737488355328 then (if ((List.drop (0 : Nat) (List.take x0.toNat a0)).length + [(a1.fst, a1.snd.fst, a1.snd.snd.fst, a1.snd.snd.snd.fst, a1.snd.snd.snd.snd.fst, a1.snd.snd.snd.snd.snd.fst, a1.snd.snd.snd.snd.snd.snd.fst, a1.snd.snd.snd.snd.snd.snd.snd.fst, a1.snd.snd.snd.snd.snd.snd.snd.snd.fst, ())].length) * (80 : Nat) ≤ 140737488355328 then (if (0 : Int) ≤ x0 ∧ x0 ≤ (↑(List.length a0) : Int) then (if ((List.drop (0 : Nat) (List.take x0.toNat a0) ++ [(a1.fst, a1.snd.fst, a1.snd.snd.fst, a1.snd.snd.snd.fst, a1.snd.snd.snd.snd.fst, a1.snd.snd.snd.snd.snd.fst, a1.snd.snd.snd.snd.snd.snd.fst, a1.snd.snd.snd.snd.snd.snd.snd.fst, a1.snd.snd.snd.snd.snd.snd.snd.snd.fst, ())]).length + (List.drop x0.toNat (List.take (List.length a0) a0)).length) * (80 : Nat) ≤ 140737488355328 then (some (List.drop (0 : Nat) (List.take x0.toNat a0) ++ [(a1.fst, a1.snd.fst, a1.snd.snd.fst, a1.snd.snd.snd.fst, a1.snd.snd.snd.snd.fst, a1.snd.snd.snd.snd.snd.fst, a1.snd.snd.snd.snd.snd.snd.fst, a1.snd.snd.snd.snd.snd.snd.snd.fst, a1.snd.snd.snd.snd.snd.snd.snd.snd.fst, ())] ++ List.drop x0.toNat (List.take (List.length a0) a0))) else (none)) else (none)) else (none)) else (none)) else (none)) := by kernel_rfl
theorem t46 (a0 : (List Tab)) (a1 : Tab) : stepN B call inl m 46 [argAV (.sl TabT) a0, argAV TabT a1] = (LP B call inl 46 m [1, 1, 0] (s46_1 a0 a1 ((0 : Int))) (KA B call inl 46 m [1, 1, 0] (FI B call inl 46)) : Option (List Tab)) := by kernel_rfl
/-! function 36 -/
def s36_1 (a0 : (List ByteArray)) (a1 : ByteArray) (x0 : Int) : St := { t := [(.v (.sl .str) (a0)), (.v .str (a1)), .bad, .bad, .nilS, (.v (.int .i64) (x0)), (.raw undef), .bad, .bad, .bad, .bad, .bad, .bad, .bad, .bad, .bad, .bad, .bad, .bad, .bad, .bad, (.raw undef), (.raw undef), (.raw undef), (.raw undef), (.raw undef), (.raw undef), (.raw undef), (.raw undef), (.raw undef), (.raw undef), (.raw undef), (.raw undef), (.raw undef), (.raw undef), (.raw undef), (.raw undef), (.raw undef), (.raw undef), (.raw undef), (.raw undef), (.raw undef), (.raw undef), (.raw undef), (.raw undef), (.raw undef), (.raw undef), (.raw undef)], bx := [], live := 0, g := [] }
def s36_1x2 (y0 : (List ByteArray)) (y1 : ByteArray) (y2 : Int) : St := { t := [(.v (.sl .str) (y0)), (.v .str (y1)), .bad, .bad, .nilS, (.v (.int .i64) (y2)), (.raw undef), .bad, .bad, .bad, .bad, .bad, .bad, .bad, .bad, .bad, .bad, .bad, .bad, .bad, .bad, (.raw undef), (.raw undef), (.raw undef), (.raw undef), (.raw undef), (.raw undef), (.raw undef), (.raw undef), (.raw undef), (.raw undef), (.raw undef), (.raw undef), (.raw undef), (.raw undef), (.raw undef), (.raw undef), (.raw undef), (.raw undef), (.raw undef), (.raw undef), (.raw undef), (.raw undef), (.raw undef), (.raw undef), (.raw undef), (.raw undef), (.raw undef)], bx := [none, none, none, none, none, none, none, none, none, none, none, none], live := 0, g := [] }
theorem s36_1_l {R : Type} (K : AEx → St → Option R) (a0 : (List ByteArray)) (a1 : ByteArray) (x0 : Int) : LP B call inl 36 (m + 1) [1, 1, 0] (s36_1 a0 a1 x0) K = (bif decide (x0 < (↑(List.length a0) : Int)) == true then (if (0 : Int) ≤ x0 ∧ x0 < (↑(List.length a0) : Int) then (bif Op.bytesLess (ByteArray.toList (List.getD a0 x0.toNat (ByteArray.mk #[]))) (ByteArray.toList a1) then (LP B call inl 36 m [1, 1, 0] (s36_1 a0 a1 (IntKind.i64.wrap (x0 + (1 : Int)))) K) else (K (.exit 0) (s36_1x2 a0 a1 x0))) else (none)) else (K (.exit 0) (s36_1x2 a0 a1 x0))) := by kernel_rfl
theorem s36_1x2_k (a0 : (List ByteArray)) (a1 : ByteArray) (x0 : Int) : (KA B call inl 36 m [1, 1, 0] (FI B call inl 36)) (.exit 0) (s36_1x2 a0 a1 x0) = (bif decide (x0 < (↑(List.length a0) : Int)) == true then (if (0 : Int) ≤ x0 ∧ x0 < (↑(List.length a0) : Int) then (bif ByteArray.toList (List.getD a0 x0.toNat (ByteArray.mk #[])) == ByteArray.toList a1 then (some (a0)) else (if (0 : Int) ≤ x0 ∧ x0 ≤ (↑(List.length a0) : Int) then (if ((0 : Nat) + (List.drop (0 : Nat) (List.take x0.toNat a0)).length) * (16 : Nat) ≤ 140737488355328 then (if ((List.drop (0 : Nat) (List.take x0.toNat a0)).length + [a1].length) * (16 : Nat) ≤ 140737488355328 then (if (0 : Int) ≤ x0 ∧ x0 ≤ (↑(List.length a0) : Int) then (if ((List.drop (0 : Nat) (List.take x0.toNat a0) ++ [a1]).length + (List.drop x0.toNat (List.take (List.length a0) a0)).length) * (16 : Nat) ≤ 140737488355328 then (some (List.drop (0 : Nat) (List.take x0.toNat a0) ++ [a1] ++ List.drop x0.toNat (List.take (List.length a0) a0))) else (none)) else (none)) else (none)) else (none)) else (none))) else (none)) else (if (0 : Int) ≤ x0 ∧ x0 ≤ (↑(List.length a0) : Int) then (if ((0 : Nat) + (List.drop (0 : Nat) (List.take x0.toNat a0)).length) * (16 : Nat) ≤ 140737488355328 then (if ((List.drop (0 : Nat) (List.take x0.toNat a0)).length + [a1].length) * (16 : Nat) ≤ 140737488355328 then (if (0 : Int) ≤ x0 ∧ x0 ≤ (↑(List.length a0) : Int) then (if ((List.drop (0 : Nat) (List.take x0.toNat a0) ++ [a1]).length + (List.drop x0.toNat (List.take (List.length a0) a0)).length) * (16 : Nat) ≤ 140737488355328 then (some (List.drop (0 : Nat) (List.take x0.toNat a0) ++ [a1] ++ List.drop x0.toNat (List.take (List.length a0) a0))) else (none)) else (none)) else (none)) else (none)) else (none))) := by kernel_rfl
theorem t36 (a0 : (List ByteArray)) (a1 : ByteArray) : stepN B call inl m 36 [argAV (.sl .str) a0, argAV .str a1] = (LP B call inl 36 m [1, 1, 0] (s36_1 a0 a1 ((0 : Int))) (KA B call inl 36 m [1, 1, 0] (FI B call inl 36)) : Option (List ByteArray)) := by kernel_rfl
/-! function 42 -/
theorem t42 (a0 : Int) : stepN B call inl m 42 [argAV (.int .i64) a0] = ((call 32 [(.v (.int .i64) (IntKind.i64.wrap (Int.tdiv a0 (10 : Int))))]).bind fun (v0 : ByteArray) => if (↑((ByteArray.mk #[(107 : UInt8)]).size + ByteArray.size v0) : Int) > IntKind.i64.max then (none) else ((call 32 [(.v (.int .i64) (Int.tmod a0 (10 : Int)))]).bind fun (v1 : ByteArray) => if (↑(ByteArray.size ((ByteArray.mk #[(107 : UInt8)]) ++ v0) + ByteArray.size v1) : Int) > IntKind.i64.max then (none) else (some ((ByteArray.mk #[(107 : UInt8)]) ++ v0 ++ v1))) : Option ByteArray) := by kernel_rfl
/-! function 37 -/
theorem t37 (a0 : (List ByteArray)) (a1 : ByteArray) : stepN B call inl m 37 [argAV (.sl .str) a0, argAV .str a1] = ((call 50 [(.v (.sl .str) (a0)), (.v .str (a1))]).bind fun (v0 : Int) => some (decide (v0 ≥ (0 : Int))) : Option Bool) := by kernel_rfl
/-! function 50 -/
def s50_1 (a0 : (List ByteArray)) (a1 : ByteArray) (x0 : Int) : St := { t := [(.v (.sl .str) (a0)), (.v .str (a1)), .bad, .bad, .bad, .bad, .bad, (.v (.int .i64) ((↑(List.length a0) : Int))), (.v (.int .i64) (x0)), .bad, .bad, .bad, .bad, .bad, .bad, .bad, .bad, .bad, .bad], bx := [], live := 0, g := [] }
def s50_1x2 (y0 : Int) : St := { t := [.bad, .bad, .bad, .bad, (.v (.int .i64) (y0)), .bad, .bad, .bad, .bad, .bad, .bad, .bad, .bad, .bad, .bad, .bad, .bad, .bad, .bad], bx := [none, none, none, none, none, none, none, none, none, none, none], live := 0, g := [] }
def s50_1x3 : St := { t := [.bad, .bad, .bad, .bad, .bad, .bad, .bad, .bad, .bad, .bad, .bad, .bad, .bad, .bad, .bad, .bad, .bad, .bad, .bad], bx := [none], live := 0, g := [] }
theorem s50_1_l {R : Type} (K : AEx → St → Option R) (a0 : (List ByteArray)) (a1 : ByteArray) (x0 : Int) : LP B call inl 50 (m + 1) [1, 0, 1] (s50_1 a0 a1 x0) K = (bif decide (x0 < (↑(List.length a0) : Int)) then (if (0 : Int) ≤ x0 ∧ x0 < (↑(List.length a0) : Int) then (bif ByteArray.toList a1 == ByteArray.toList (List.getD a0 x0.toNat (ByteArray.mk #[])) then (K .ret (s50_1x2 x0)) else (LP B call inl 50 m [1, 0, 1] (s50_1 a0 a1 (IntKind.i64.wrap (x0 + (1 : Int)))) K)) else (none)) else (K (.exit 0) (s50_1x3 ))) := by kernel_rfl
theorem s50_1x2_k (x0 : Int) : (KA B call inl 50 m [1, 0, 1] (FI B call inl 50)) .ret (s50_1x2 x0) = (some (x0)) := by kernel_rfl
theorem s50_1x3_k : (KA B call inl 50 m [1, 0, 1] (FI B call inl 50)) (.exit 0) (s50_1x3 ) = (some ((-1 : Int))) := by kernel_rfl
theorem t50 (a0 : (List ByteArray)) (a1 : ByteArray) : stepN B call inl m 50 [argAV (.sl .str) a0, argAV .str a1] = (LP B call inl 50 m [1, 0, 1] (s50_1 a0 a1 ((0 : Int))) (KA B call inl 50 m [1, 0, 1] (FI B call inl 50)) : Option Int) := by kernel_rfl
/-! function 20 -/
theorem t20 (a0 : ByteArray) (a1 : (List ByteArray)) (a2 : Int) : stepN B call inl m 20 [argAV .str a0, argAV (.sl .str) a1, argAV (.int .i64) a2] = ((call 9 [(.v .str (a0))]).bind fun (v0 : (Int × Int × Int × Unit)) => (call 37 [(.v (.sl .str) (a1)), (.v .str (a0))]).bind fun (v1 : Bool) => bif v1 == false then (bif (v0.fst == (1 : Int)) == true then (some (decide (v0.snd.snd.fst ≥ a2))) else (some (false))) else (some (true)) : Option Bool) := by kernel_rfl
/-! function 21 -/
def s21_3 (a0 : ByteArray) (a1 : (List ByteArray)) (x1 : Bool) (x2 : Int) : St := { t := [(.v .str (a0)), (.v (.sl .str) (a1)), .bad, .bad, .bad, .bad, (.v .bool (false)), .bad, .bad, .bad, (.v .bool (x1)), (.v (.int .i64) (x2)), .bad, .bad, .bad, .bad, .bad, .bad, .bad, .bad, .bad, .bad, .bad, .bad, .bad, .bad, .bad, .bad, .bad, .bad, .bad, .bad, .bad, .bad, .bad, .bad, .bad, .bad, .bad, .bad, (.raw undef)], bx := [], live := 0, g := [] }
def s21_3x4 (y0 : Bool) : St := { t := [.bad, .bad, .bad, .bad, .bad, .bad, (.v .bool (false)), .bad, .bad, .bad, (.v .bool (y0)), .bad, .bad, .bad, .bad, .bad, .bad, .bad, .bad, .bad, .bad, .bad, .bad, .bad, .bad, .bad, .bad, .bad, .bad, .bad, .bad, .bad, .bad, .bad, .bad, .bad, .bad, .bad, .bad, .bad, (.raw undef)], bx := [none, none, none, none], live := 0, g := [] }
theorem s21_3_l {R : Type} (K : AEx → St → Option R) (a0 : ByteArray) (a1 : (List ByteArray)) (x1 : Bool) (x2 : Int) : LP B call inl 21 (m + 1) [1, 1, 1, 0, 1] (s21_3 a0 a1 x1 x2) K = (bif decide (x2 < (↑(List.length a1) : Int)) then (bif x1 == false then (if (0 : Int) ≤ x2 ∧ x2 < (↑(List.length a1) : Int) then (LP B call inl 21 m [1, 1, 1, 0, 1] (s21_3 a0 a1 (ByteArray.toList (List.getD a1 x2.toNat (ByteArray.mk #[])) == ByteArray.toList a0) (IntKind.i64.wrap (x2 + (1 : Int)))) K) else (none)) else (LP B call inl 21 m [1, 1, 1, 0, 1] (s21_3 a0 a1 (true) (IntKind.i64.wrap (x2 + (1 : Int)))) K)) else (K (.exit 0) (s21_3x4 x1))) := by kernel_rfl
theorem s21_3x4_k (x1 : Bool) : (KA B call inl 21 m [1, 1, 1, 0, 1] (FI B call inl 21)) (.exit 0) (s21_3x4 x1) = (some (x1)) := by kernel_rfl
theorem t21 (a0 : ByteArray) (a1 : (List ByteArray)) (a2 : Int) : stepN B call inl m 21 [argAV .str a0, argAV (.sl .str) a1, argAV (.int .i64) a2] = ((call 10 [(.v .str (a0))]).bind fun (v0 : (Int × Int × Int × Unit)) => bif (v0.fst == (1 : Int)) == true then (LP B call inl 21 m [1, 1, 1, 0, 1] (s21_3 a0 a1 (decide (v0.snd.snd.fst ≥ a2)) ((0 : Int))) (KA B call inl 21 m [1, 1, 1, 0, 1] (FI B call inl 21))) else (LP B call inl 21 m [1, 1, 1, 0, 1] (s21_3 a0 a1 (false) ((0 : Int))) (KA B call inl 21 m [1, 1, 1, 0, 1] (FI B call inl 21))) : Option Bool) := by kernel_rfl
/-! function 17 -/
def s17_1 (a0 : (List ByteArray)) (a1 : (List ByteArray)) (x0 : Int) : St := { t := [(.v (.sl .str) (a0)), (.v (.sl .str) (a1)), .bad, .bad, .bad, (.v (.int .i64) (x0)), .bad, .bad, .bad, .bad, .bad, .bad, .bad, .bad, .bad, .bad, .bad, .bad, .bad, .bad, .bad, .bad, .bad, .bad, .bad, .bad], bx := [], live := 0, g := [] }
def s17_1x2 : St := { t := [.bad, .bad, .bad, .bad, (.v .bool (false)), .bad, .bad, .bad, .bad, .bad, .bad, .bad, .bad, .bad, .bad, .bad, .bad, .bad, .bad, .bad, .bad, .bad, .bad, .bad, .bad, .bad], bx := [none, none, none, none, none, none, none, none, none, none, none, none, none, none], live := 0, g := [] }
def s17_1x3 : St := { t := [.bad, .bad, .bad, .bad, .bad, .bad, .bad, .bad, .bad, .bad, .bad, .bad, .bad, .bad, .bad, .bad, .bad, .bad, .bad, .bad, .bad, .bad, .bad, .bad, .bad, .bad], bx := [none, none, none, none], live := 0, g := [] }
theorem s17_1_l {R : Type} (K : AEx → St → Option R) (a0 : (List ByteArray)) (a1 : (List ByteArray)) (x0 : Int) : LP B call inl 17 (m + 1) [1, 1, 0, 1] (s17_1 a0 a1 x0) K = (bif decide (x0 < (↑(List.length a0) : Int)) then (if (0 : Int) ≤ x0 ∧ x0 < (↑(List.length a0) : Int) then (if (0 : Int) ≤ x0 ∧ x0 < (↑(List.length a1) : Int) then (bif !ByteArray.toList (List.getD a0 x0.toNat (ByteArray.mk #[])) == ByteArray.toList (List.getD a1 x0.toNat (ByteArray.mk #[])) then (K .ret (s17_1x2 )) else (LP B call inl 17 m [1, 1, 0, 1] (s17_1 a0 a1 (IntKind.i64.wrap (x0 + (1 : Int)))) K)) else (none)) else (none)) else (K (.exit 0) (s17_1x3 ))) := by kernel_rfl
theorem s17_1x2_k : (KA B call inl 17 m [1, 1, 0, 1] (FI B call inl 17)) .ret (s17_1x2 ) = (some (false)) := by kernel_rfl
theorem s17_1x3_k : (KA B call inl 17 m [1, 1, 0, 1] (FI B call inl 17)) (.exit 0) (s17_1x3 ) = (some (true)) := by kernel_rfl
theorem t17 (a0 : (List ByteArray)) (a1 : (List ByteArray)) : stepN B call inl m 17 [argAV (.sl .str) a0, argAV (.sl .str) a1] = (bif (↑(List.length a0) : Int) != (↑(List.length a1) : Int) then (some (false)) else (LP B call inl 17 m [1, 1, 0, 1] (s17_1 a0 a1 ((0 : Int))) (KA B call inl 17 m [1, 1, 0, 1] (FI B call inl 17))) : Option Bool) := by kernel_rfl
end
end Go.Eng.Bk
/- Names: plain laws on digits. -/
namespace Go.Eng.Bk
open Go Go.Proofs Go.Eng
set_option linter.unusedVariables false
set_option linter.unusedSimpArgs false
/-- What digits tell. -/
def decV : Nat → List UInt8 → Option Nat
  | acc, [] => some acc
  | acc, c :: r => if 48 ≤ c.toNat ∧ c.toNat ≤ 57 then decV (acc * 10 + (c.toNat - 48)) r else none
theorem decV_append : ∀ (a b : List UInt8) (acc : Nat), decV acc (a ++ b) = (decV acc a).bind fun x => decV x b
  | [], b, acc => rfl
  | c :: a, b, acc => by
    simp only [List.cons_append, decV]
    split
    · exact decV_append a b _
    · rfl
theorem dig_toNat {d : Nat} (h : d < 10) : (UInt8.ofNat (48 + d)).toNat = 48 + d := by
  rw [UInt8.toNat_ofNat']; omega
theorem decV_dec (n : Nat) : decV 0 (Lib.decDigits n) = some n := by
  induction n using Nat.strongRecOn with
  | ind n ih =>
    rw [Lib.decDigits]
    split
    · rename_i h
      simp only [decV, dig_toNat h]
      rw [if_pos (by omega)]
      simp
    · rename_i h
      rw [decV_append, ih (n / 10) (by omega)]
      simp only [Option.bind_some, decV, dig_toNat (Nat.mod_lt n (by decide : 0 < 10))]
      rw [if_pos (by omega)]
      congr 1
      omega
theorem dec_dig (n : Nat) : ∀ c ∈ Lib.decDigits n, 48 ≤ c.toNat ∧ c.toNat ≤ 57 := by
  induction n using Nat.strongRecOn with
  | ind n ih =>
    intro c hc
    rw [Lib.decDigits] at hc
    split at hc
    · rename_i h
      rw [List.mem_singleton.1 hc, dig_toNat h]; omega
    · rename_i h
      rcases List.mem_append.1 hc with hc | hc
      · exact ih (n / 10) (by omega) c hc
      · rw [List.mem_singleton.1 hc, dig_toNat (Nat.mod_lt n (by decide : 0 < 10))]
        have := Nat.mod_lt n (show 0 < 10 by decide)
        omega
theorem nDig_le : ∀ (k n : Nat), n < 10 ^ (k + 1) → Lib.nDigits n ≤ k + 1
  | 0, n, h => by rw [Lib.nDigits_small (by omega)]; omega
  | k + 1, n, h => by
    by_cases h1 : n < 10
    · rw [Lib.nDigits_small h1]; omega
    · rw [Lib.nDigits_big h1]
      have := nDig_le k (n / 10) (by rw [Nat.pow_succ] at h; omega)
      omega
theorem dec_len {n : Nat} (h : n ≤ 9007199254740992) : (Lib.decDigits n).length ≤ 16 := by
  rw [Lib.decDigits_length]
  exact nDig_le 15 n (by omega)
theorem dec_ne (n : Nat) : Lib.decDigits n ≠ [] := fun h => by
  have := Lib.nDigits_pos n
  rw [← Lib.decDigits_length, h] at this
  simp at this
theorem parse_dec : ∀ (l : List UInt8) (acc v : Nat), decV acc l = some v → v < 9223372036854775808 → acc ≤ v ∧ Lib.parseUint10 acc l = .ok v
  | [], acc, v, h, hv => by
    simp only [decV, Option.some.injEq] at h
    subst h
    exact ⟨Nat.le_refl _, rfl⟩
  | c :: r, acc, v, h, hv => by
    simp only [decV] at h
    split at h
    · rename_i hc
      obtain ⟨h1, h2⟩ := parse_dec r _ v h hv
      refine ⟨by omega, ?_⟩
      simp only [Lib.parseUint10]
      rw [if_pos hc, if_neg (by omega), if_neg (by omega)]
      exact h2
    · cases h
theorem atoi_dec {n : Nat} (h : n < 9223372036854775808) : Lib.atoiAll (Lib.decDigits n) = .ok (n : Int) := by
  obtain ⟨_, hp⟩ := parse_dec _ 0 n (decV_dec n) h
  cases hl : Lib.decDigits n with
  | nil => exact absurd hl (dec_ne n)
  | cons c r =>
    have hc := dec_dig n c (by rw [hl]; simp)
    rw [Lib.atoiAll_plain c r (by omega) (by omega)]
    unfold Lib.parseMag
    rw [if_neg (by simp), ← hl, hp]
    simp only [Lib.signless]
    rw [if_neg (by omega)]
theorem itoa_nat (n : Nat) : Lib.itoa (n : Int) = Lib.decDigits n := by
  unfold Lib.itoa
  rw [if_neg (by omega), Int.toNat_natCast]
/-- A text is a number's digits. -/
def Canon (t : ByteArray) (v : Int) : Prop := 0 ≤ v ∧ v ≤ 9007199254740992 ∧ itoaB v = t
theorem Canon.list {t : ByteArray} {v : Int} (h : Canon t v) : ∃ n : Nat, v = n ∧ n ≤ 9007199254740992 ∧ t.data.toList = Lib.decDigits n := by
  obtain ⟨n, rfl⟩ := Int.eq_ofNat_of_zero_le h.1
  refine ⟨n, rfl, by have := h.2.1; omega, ?_⟩
  rw [← h.2.2]
  show (Lib.itoa (n : Int)).toArray.toList = _
  rw [itoa_nat]
theorem numB_canon {t : ByteArray} {v : Int} (h : Canon t v) : numB t = (v, true, ()) := by
  obtain ⟨n, rfl, hn, hl⟩ := h.list
  unfold numB
  rw [hl, atoi_dec (by omega)]
  simp only
  rw [decide_eq_true (⟨h.1, h.2.1⟩ : (0 : Int) ≤ (n : Int) ∧ (n : Int) ≤ 9007199254740992), decide_eq_true h.2.2]
  rfl
theorem canon_numB {t : ByteArray} (h : (numB t).2.1 = true) : Canon t (numB t).1 := by
  unfold numB at h ⊢
  split at h
  · rename_i n hn
    simp only [Bool.and_eq_true, decide_eq_true_eq] at h ⊢
    exact ⟨h.1.1, h.1.2, h.2⟩
  · cases h
  · cases h
/-- .. as the document reads it. -/
def numD (l : List UInt8) : Int := if l = [] ∨ 16 < l.length then -1 else match decV 0 l with
  | some n => (n : Int)
  | none => -1
theorem numD_canon {t : ByteArray} {v : Int} (h : Canon t v) : numD t.data.toList = v := by
  obtain ⟨n, rfl, hn, hl⟩ := h.list
  unfold numD
  rw [hl, if_neg (by
    have := dec_len hn
    intro h
    rcases h with h | h
    · exact dec_ne n h
    · omega), decV_dec]
theorem Canon.dig {t : ByteArray} {v : Int} (h : Canon t v) : ∀ c ∈ t.data.toList, 48 ≤ c.toNat ∧ c.toNat ≤ 57 := by
  obtain ⟨n, rfl, hn, hl⟩ := h.list
  rw [hl]; exact dec_dig n
theorem Canon.uniq {t : ByteArray} {v u : Int} (h : Canon t v) (k : Canon t u) : v = u := by rw [← numD_canon h, numD_canon k]
theorem canon_nat {n : Nat} (h : n ≤ 9007199254740992) : Canon (itoaB (n : Int)) n := ⟨by omega, by omega, rfl⟩
theorem canon_may {n : Int} (h0 : 0 ≤ n) (h1 : n ≤ 9007199254740992) : Canon (itoaB n) n := ⟨h0, h1, rfl⟩
theorem itoaB_size {n : Int} (h0 : 0 ≤ n) (h1 : n ≤ 9007199254740992) : (itoaB n).size ≤ 16 := by
  obtain ⟨m, rfl, hm, hl⟩ := (canon_may h0 h1).list
  have : (itoaB (m : Int)).size = (itoaB (m : Int)).data.toList.length := Array.length_toList.symm
  rw [this, hl]
  exact dec_len hm
/-! Digits, one by one -/
def dgA : Nat → Nat → ByteArray → ByteArray
  | 0, _, acc => acc
  | d + 1, n, acc => if n ≥ 10 then dgA d (n / 10) (strOf [((48 + n % 10 : Nat) : Int)] ++ acc) else strOf [((48 + n : Nat) : Int)] ++ acc
theorem ba_app (a b : ByteArray) : (a ++ b).data.toList = a.data.toList ++ b.data.toList := by rw [ByteArray.data_append, Array.toList_append]
theorem dgA_dec : ∀ (d n : Nat) (acc : ByteArray), n < 10 ^ (d + 1) → (dgA (d + 1) n acc).data.toList = Lib.decDigits n ++ acc.data.toList
  | d, n, acc, h => by
    have e1 : ∀ x : Nat, (strOf [(x : Int)]).data.toList = [UInt8.ofNat x] := fun x => by simp [strOf]
    simp only [dgA]
    rw [Lib.decDigits]
    by_cases h1 : n < 10
    · rw [dif_pos h1, if_neg (by omega), ba_app, e1]
    · rw [dif_neg h1, if_pos (by omega)]
      cases d with
      | zero => omega
      | succ d =>
        rw [dgA_dec d (n / 10) _ (by rw [Nat.pow_succ] at h; omega), ba_app, e1, List.append_assoc]
theorem dg_itoa {n : Nat} (h : n < 100000000000000000000) : dgA 20 n ⟨#[]⟩ = itoaB (n : Int) := by
  refine ba_ext ?_
  rw [ba_toList, ba_toList, dgA_dec 19 n _ (by omega)]
  show Lib.decDigits n ++ [] = (Lib.itoa (n : Int)).toArray.toList
  rw [itoa_nat, List.append_nil]
end Go.Eng.Bk
/- What the machine answers at some functions of the program: printed by the generator, each checked by the kernel. -/
namespace Go.Eng.Bk
open Go Go.Proofs Go.Eng
set_option linter.unusedVariables false
set_option maxRecDepth 100000
section
variable (call : CallT B) (inl : InlT) (m : Nat)
/-! function 3 -/
theorem t3 (a0 : Int) (a1 : Int) (a2 : Int) (a3 : ByteArray) : stepN B call inl m 3 [argAV (.int .i64) a0, argAV (.int .i64) a1, argAV (.int .i64) a2, argAV .str a3] = (bif decide ((↑(ByteArray.size a3) : Int) > (200 : Int)) then ((call 8 []).bind fun (v0 : Bool) => some (v0)) else ((call 9 [(.v .str (a3))]).bind fun (v1 : (Int × Int × Int × Unit)) => (call 10 [(.v .str (a3))]).bind fun (v2 : (Int × Int × Int × Unit)) => (call 11 [(.v (.int .i64) (a0)), (.v (.int .i64) (a1)), (.v (.int .i64) (a2))]).bind fun (v3 : ByteArray) => (call 12 [(.v (.int .i64) (a0)), (.v (.int .i64) (a1)), (.v (.int .i64) (a2))]).bind fun (v4 : ByteArray) => bif (ByteArray.toList v3 == ByteArray.toList v4) == true then (bif (v1.fst == v2.fst) == true then (bif (v1.snd.fst == v2.snd.fst) == true then (bif (v1.snd.snd.fst == v2.snd.snd.fst) == true then ((call 8 []).bind fun (v5 : Bool) => some (v5)) else (some (false))) else (some (false))) else (some (false))) else (some (false))) : Option Bool) := by kernel_rfl
/-! function 5 -/
theorem t5 (a0 : Int) (a1 : Int) : stepN B call inl m 5 [argAV (.int .u32) a0, argAV (.int .u8) a1] = ((call 12 [(.v (.int .i64) ((1 : Int))), (.v (.int .i64) ((0 : Int))), (.v (.int .i64) (IntKind.i64.wrap a0))]).bind fun (v0 : ByteArray) => bif decide ((↑(ByteArray.size v0) : Int) < (5 : Int)) then (some (false)) else (if (0 : Int) ≤ (4 : Int) ∧ (4 : Int) ≤ (↑(ByteArray.size v0) : Int) then (if (↑((ByteArray.mk #[(108 : UInt8), (111 : UInt8), (103 : UInt8), (45 : UInt8), (48 : UInt8)]).size + (ByteArray.extract v0 (Int.toNat (4 : Int)) (ByteArray.size v0)).size) : Int) > IntKind.i64.max then (none) else (if (↑((ByteArray.mk #[(108 : UInt8), (111 : UInt8), (103 : UInt8), (45 : UInt8), (32 : UInt8)]).size + (ByteArray.extract v0 (Int.toNat (4 : Int)) (ByteArray.size v0)).size) : Int) > IntKind.i64.max then (none) else (if (↑((ByteArray.mk #[(108 : UInt8), (111 : UInt8), (103 : UInt8), (45 : UInt8), (45 : UInt8)]).size + (ByteArray.extract v0 (Int.toNat (4 : Int)) (ByteArray.size v0)).size) : Int) > IntKind.i64.max then (none) else (if (↑((ByteArray.mk #[(108 : UInt8), (111 : UInt8), (103 : UInt8), (45 : UInt8)]).size + (ByteArray.extract v0 (Int.toNat (4 : Int)) (ByteArray.size v0)).size) : Int) > IntKind.i64.max then (none) else (if (↑(ByteArray.size ((ByteArray.mk #[(108 : UInt8), (111 : UInt8), (103 : UInt8), (45 : UInt8)]) ++ ByteArray.extract v0 (Int.toNat (4 : Int)) (ByteArray.size v0)) + (ByteArray.mk #[(45 : UInt8), (49 : UInt8)]).size) : Int) > IntKind.i64.max then (none) else (if (↑((ByteArray.mk #[(102 : UInt8), (97 : UInt8), (114 : UInt8), (45 : UInt8)]).size + (ByteArray.extract v0 (Int.toNat (4 : Int)) (ByteArray.size v0)).size) : Int) > IntKind.i64.max then (none) else (if (↑((ByteArray.mk #[(102 : UInt8), (97 : UInt8), (114 : UInt8), (45 : UInt8), (49 : UInt8), (45 : UInt8), (48 : UInt8)]).size + (ByteArray.extract v0 (Int.toNat (4 : Int)) (ByteArray.size v0)).size) : Int) > IntKind.i64.max then (none) else (if (↑((ByteArray.mk #[(102 : UInt8), (97 : UInt8), (114 : UInt8), (45 : UInt8)]).size + (ByteArray.extract v0 (Int.toNat (4 : Int)) (ByteArray.size v0)).size) : Int) > IntKind.i64.max then (none) else (if (↑(ByteArray.size ((ByteArray.mk #[(102 : UInt8), (97 : UInt8), (114 : UInt8), (45 : UInt8)]) ++ ByteArray.extract v0 (Int.toNat (4 : Int)) (ByteArray.size v0)) + (ByteArray.mk #[(45 : UInt8)]).size) : Int) > IntKind.i64.max then (none) else (if (↑((ByteArray.mk #[(76 : UInt8), (111 : UInt8), (103 : UInt8), (45 : UInt8)]).size + (ByteArray.extract v0 (Int.toNat (4 : Int)) (ByteArray.size v0)).size) : Int) > IntKind.i64.max then (none) else (if (↑((ByteArray.mk #[(108 : UInt8), (111 : UInt8), (103 : UInt8)]).size + (ByteArray.extract v0 (Int.toNat (4 : Int)) (ByteArray.size v0)).size) : Int) > IntKind.i64.max then (none) else (if (0 : Int) ≤ (IntKind.i64.wrap a1).tmod (↑[(ByteArray.mk #[(108 : UInt8), (111 : UInt8), (103 : UInt8), (45 : UInt8), (48 : UInt8)]) ++ ByteArray.extract v0 (Int.toNat (4 : Int)) (ByteArray.size v0), (ByteArray.mk #[(108 : UInt8), (111 : UInt8), (103 : UInt8), (45 : UInt8), (32 : UInt8)]) ++ ByteArray.extract v0 (Int.toNat (4 : Int)) (ByteArray.size v0), (ByteArray.mk #[(108 : UInt8), (111 : UInt8), (103 : UInt8), (45 : UInt8), (45 : UInt8)]) ++ ByteArray.extract v0 (Int.toNat (4 : Int)) (ByteArray.size v0), (ByteArray.mk #[(108 : UInt8), (111 : UInt8), (103 : UInt8), (45 : UInt8)]) ++ ByteArray.extract v0 (Int.toNat (4 : Int)) (ByteArray.size v0) ++ (ByteArray.mk #[(45 : UInt8), (49 : UInt8)]), (ByteArray.mk #[(102 : UInt8), (97 : UInt8), (114 : UInt8), (45 : UInt8)]) ++ ByteArray.extract v0 (Int.toNat (4 : Int)) (ByteArray.size v0), (ByteArray.mk #[(102 : UInt8), (97 : UInt8), (114 : UInt8), (45 : UInt8), (49 : UInt8), (45 : UInt8), (48 : UInt8)]) ++ ByteArray.extract v0 (Int.toNat (4 : Int)) (ByteArray.size v0), (ByteArray.mk #[(102 : UInt8), (97 : UInt8), (114 : UInt8), (45 : UInt8)]) ++ ByteArray.extract v0 (Int.toNat (4 : Int)) (ByteArray.size v0) ++ (ByteArray.mk #[(45 : UInt8)]), (ByteArray.mk #[(76 : UInt8), (111 : UInt8), (103 : UInt8), (45 : UInt8)]) ++ ByteArray.extract v0 (Int.toNat (4 : Int)) (ByteArray.size v0), (ByteArray.mk #[(108 : UInt8), (111 : UInt8), (103 : UInt8)]) ++ ByteArray.extract v0 (Int.toNat (4 : Int)) (ByteArray.size v0), (ByteArray.mk #[(99 : UInt8), (117 : UInt8), (114 : UInt8), (114 : UInt8), (101 : UInt8), (110 : UInt8), (116 : UInt8), (45 : UInt8), (49 : UInt8)]), (ByteArray.mk #[(109 : UInt8), (97 : UInt8), (114 : UInt8), (107 : UInt8), (45 : UInt8)]), (ByteArray.mk #[(116 : UInt8), (97 : UInt8), (98 : UInt8), (108 : UInt8), (101 : UInt8), (45 : UInt8), (120 : UInt8)]), (ByteArray.mk #[])].length : Int) ∧ (IntKind.i64.wrap a1).tmod (↑[(ByteArray.mk #[(108 : UInt8), (111 : UInt8), (103 : UInt8), (45 : UInt8), (48 : UInt8)]) ++ ByteArray.extract v0 (Int.toNat (4 : Int)) (ByteArray.size v0), (ByteArray.mk #[(108 : UInt8), (111 : UInt8), (103 : UInt8), (45 : UInt8), (32 : UInt8)]) ++ ByteArray.extract v0 (Int.toNat (4 : Int)) (ByteArray.size v0), (ByteArray.mk #[(108 : UInt8), (111 : UInt8), (103 : UInt8), (45 : UInt8), (45 : UInt8)]) ++ ByteArray.extract v0 (Int.toNat (4 : Int)) (ByteArray.size v0), (ByteArray.mk #[(108 : UInt8), (111 : UInt8), (103 : UInt8), (45 : UInt8)]) ++ ByteArray.extract v0 (Int.toNat (4 : Int)) (ByteArray.size v0) ++ (ByteArray.mk #[(45 : UInt8), (49 : UInt8)]), (ByteArray.mk #[(102 : UInt8), (97 : UInt8), (114 : UInt8), (45 : UInt8)]) ++ ByteArray.extract v0 (Int.toNat (4 : Int)) (ByteArray.size v0), (ByteArray.mk #[(102 : UInt8), (97 : UInt8), (114 : UInt8), (45 : UInt8), (49 : UInt8), (45 : UInt8), (48 : UInt8)]) ++ ByteArray.extract v0 (Int.toNat (4 : Int)) (ByteArray.size v0), (ByteArray.mk #[(102 : UInt8), (97 : UInt8), (114 : UInt8), (45 : UInt8)]) ++ ByteArray.extract v0 (Int.toNat (4 : Int)) (ByteArray.size v0) ++ (ByteArray.mk #[(45 : UInt8)]), (ByteArray.mk #[(76 : UInt8), (111 : UInt8), (103 : UInt8), (45 : UInt8)]) ++ ByteArray.extract v0 (Int.toNat (4 : Int)) (ByteArray.size v0), (ByteArray.mk #[(108 : UInt8), (111 : UInt8), (103 : UInt8)]) ++ ByteArray.extract v0 (Int.toNat (4 : Int)) (ByteArray.size v0), (ByteArray.mk #[(99 : UInt8), (117 : UInt8), (114 : UInt8), (114 : UInt8), (101 : UInt8), (110 : UInt8), (116 : UInt8), (45 : UInt8), (49 : UInt8)]), (ByteArray.mk #[(109 : UInt8), (97 : UInt8), (114 : UInt8), (107 : UInt8), (45 : UInt8)]), (ByteArray.mk #[(116 : UInt8), (97 : UInt8), (98 : UInt8), (108 : UInt8), (101 : UInt8), (45 : UInt8), (120 : UInt8)]), (ByteArray.mk #[])].length : Int) < (↑[(ByteArray.mk #[(108 : UInt8), (111 : UInt8), (103 : UInt8), (45 : UInt8), (48 : UInt8)]) ++ ByteArray.extract v0 (Int.toNat (4 : Int)) (ByteArray.size v0), (ByteArray.mk #[(108 : UInt8), (111 : UInt8), (103 : UInt8), (45 : UInt8), (32 : UInt8)]) ++ ByteArray.extract v0 (Int.toNat (4 : Int)) (ByteArray.size v0), (ByteArray.mk #[(108 : UInt8), (111 : UInt8), (103 : UInt8), (45 : UInt8), (45 : UInt8)]) ++ ByteArray.extract v0 (Int.toNat (4 : Int)) (ByteArray.size v0), (ByteArray.mk #[(108 : UInt8), (111 : UInt8), (103 : UInt8), (45 : UInt8)]) ++ ByteArray.extract v0 (Int.toNat (4 : Int)) (ByteArray.size v0) ++ (ByteArray.mk #[(45 : UInt8), (49 : UInt8)]), (ByteArray.mk #[(102 : UInt8), (97 : UInt8), (114 : UInt8), (45 : UInt8)]) ++ ByteArray.extract v0 (Int.toNat (4 : Int)) (ByteArray.size v0), (ByteArray.mk #[(102 : UInt8), (97 : UInt8), (114 : UInt8), (45 : UInt8), (49 : UInt8), (45 : UInt8), (48 : UInt8)]) ++ ByteArray.extract v0 (Int.toNat (4 : Int)) (ByteArray.size v0), (ByteArray.mk #[(102 : UInt8), (97 : UInt8), (114 : UInt8), (45 : UInt8)]) ++ ByteArray.extract v0 (Int.toNat (4 : Int)) (ByteArray.size v0) ++ (ByteArray.mk #[(45 : UInt8)]), (ByteArray.mk #[(76 : UInt8), (111 : UInt8), (103 : UInt8), (45 : UInt8)]) ++ ByteArray.extract v0 (Int.toNat (4 : Int)) (ByteArray.size v0), (ByteArray.mk #[(108 : UInt8), (111 : UInt8), (103 : UInt8)]) ++ ByteArray.extract v0 (Int.toNat (4 : Int)) (ByteArray.size v0), (ByteArray.mk #[(99 : UInt8), (117 : UInt8), (114 : UInt8), (114 : UInt8), (101 : UInt8), (110 : UInt8), (116 : UInt8), (45 : UInt8), (49 : UInt8)]), (ByteArray.mk #[(109 : UInt8), (97 : UInt8), (114 : UInt8), (107 : UInt8), (45 : UInt8)]), (ByteArray.mk #[(116 : UInt8), (97 : UInt8), (98 : UInt8), (108 : UInt8), (101 : UInt8), (45 : UInt8), (120 : UInt8)]), (ByteArray.mk #[])].length : Int) then ((call 9 [(.v .str ([(ByteArray.mk #[(108 : UInt8), (111 : UInt8), (103 : UInt8), (45 : UInt8), (48 : UInt8)]) ++ ByteArray.extract v0 (Int.toNat (4 : Int)) (ByteArray.size v0), (ByteArray.mk #[(108 : UInt8), (111 : UInt8), (103 : UInt8), (45 : UInt8), (32 : UInt8)]) ++ ByteArray.extract v0 (Int.toNat (4 : Int)) (ByteArray.size v0), (ByteArray.mk #[(108 : UInt8), (111 : UInt8), (103 : UInt8), (45 : UInt8), (45 : UInt8)]) ++ ByteArray.extract v0 (Int.toNat (4 : Int)) (ByteArray.size v0), (ByteArray.mk #[(108 : UInt8), (111 : UInt8), (103 : UInt8), (45 : UInt8)]) ++ ByteArray.extract v0 (Int.toNat (4 : Int)) (ByteArray.size v0) ++ (ByteArray.mk #[(45 : UInt8), (49 : UInt8)]), (ByteArray.mk #[(102 : UInt8), (97 : UInt8), (114 : UInt8), (45 : UInt8)]) ++ ByteArray.extract v0 (Int.toNat (4 : Int)) (ByteArray.size v0), (ByteArray.mk #[(102 : UInt8), (97 : UInt8), (114 : UInt8), (45 : UInt8), (49 : UInt8), (45 : UInt8), (48 : UInt8)]) ++ ByteArray.extract v0 (Int.toNat (4 : Int)) (ByteArray.size v0), (ByteArray.mk #[(102 : UInt8), (97 : UInt8), (114 : UInt8), (45 : UInt8)]) ++ ByteArray.extract v0 (Int.toNat (4 : Int)) (ByteArray.size v0) ++ (ByteArray.mk #[(45 : UInt8)]), (ByteArray.mk #[(76 : UInt8), (111 : UInt8), (103 : UInt8), (45 : UInt8)]) ++ ByteArray.extract v0 (Int.toNat (4 : Int)) (ByteArray.size v0), (ByteArray.mk #[(108 : UInt8), (111 : UInt8), (103 : UInt8)]) ++ ByteArray.extract v0 (Int.toNat (4 : Int)) (ByteArray.size v0), (ByteArray.mk #[(99 : UInt8), (117 : UInt8), (114 : UInt8), (114 : UInt8), (101 : UInt8), (110 : UInt8), (116 : UInt8), (45 : UInt8), (49 : UInt8)]), (ByteArray.mk #[(109 : UInt8), (97 : UInt8), (114 : UInt8), (107 : UInt8), (45 : UInt8)]), (ByteArray.mk #[(116 : UInt8), (97 : UInt8), (98 : UInt8), (108 : UInt8), (101 : UInt8), (45 : UInt8), (120 : UInt8)]), (ByteArray.mk #[])].getD ((IntKind.i64.wrap a1).tmod (↑[(ByteArray.mk #[(108 : UInt8), (111 : UInt8), (103 : UInt8), (45 : UInt8), (48 : UInt8)]) ++ ByteArray.extract v0 (Int.toNat (4 : Int)) (ByteArray.size v0), (ByteArray.mk #[(108 : UInt8), (111 : UInt8), (103 : UInt8), (45 : UInt8), (32 : UInt8)]) ++ ByteArray.extract v0 (Int.toNat (4 : Int)) (ByteArray.size v0), (ByteArray.mk #[(108 : UInt8), (111 : UInt8), (103 : UInt8), (45 : UInt8), (45 : UInt8)]) ++ ByteArray.extract v0 (Int.toNat (4 : Int)) (ByteArray.size v0), (ByteArray.mk #[(108 : UInt8), (111 : UInt8), (103 : UInt8), (45 : UInt8)]) ++ ByteArray.extract v0 (Int.toNat (4 : Int)) (ByteArray.size v0) ++ (ByteArray.mk #[(45 : UInt8), (49 : UInt8)]), (ByteArray.mk #[(102 : UInt8), (97 : UInt8), (114 : UInt8), (45 : UInt8)]) ++ ByteArray.extract v0 (Int.toNat (4 : Int)) (ByteArray.size v0), (ByteArray.mk #[(102 : UInt8), (97 : UInt8), (114 : UInt8), (45 : UInt8), (49 : UInt8), (45 : UInt8), (48 : UInt8)]) ++ ByteArray.extract v0 (Int.toNat (4 : Int)) (ByteArray.size v0), (ByteArray.mk #[(102 : UInt8), (97 : UInt8), (114 : UInt8), (45 : UInt8)]) ++ ByteArray.extract v0 (Int.toNat (4 : Int)) (ByteArray.size v0) ++ (ByteArray.mk #[(45 : UInt8)]), (ByteArray.mk #[(76 : UInt8), (111 : UInt8), (103 : UInt8), (45 : UInt8)]) ++ ByteArray.extract v0 (Int.toNat (4 : Int)) (ByteArray.size v0), (ByteArray.mk #[(108 : UInt8), (111 : UInt8), (103 : UInt8)]) ++ ByteArray.extract v0 (Int.toNat (4 : Int)) (ByteArray.size v0), (ByteArray.mk #[(99 : UInt8), (117 : UInt8), (114 : UInt8), (114 : UInt8), (101 : UInt8), (110 : UInt8), (116 : UInt8), (45 : UInt8), (49 : UInt8)]), (ByteArray.mk #[(109 : UInt8), (97 : UInt8), (114 : UInt8), (107 : UInt8), (45 : UInt8)]), (ByteArray.mk #[(116 : UInt8), (97 : UInt8), (98 : UInt8), (108 : UInt8), (101 : UInt8), (45 : UInt8), (120 : UInt8)]), (ByteArray.mk #[])].length : Int)).toNat (ByteArray.mk #[])))]).bind fun (v1 : (Int × Int × Int × Unit)) => bif (v1.fst == (0 : Int)) == true then (bif (v1.snd.fst == (0 : Int)) == true then (bif (v1.snd.snd.fst == (0 : Int)) == true then ((call 8 []).bind fun (v2 : Bool) => some (v2)) else (some (false))) else (some (false))) else (some (false))) else (none))))))))))))) else (none)) : Option Bool) := by kernel_rfl
/-! function 8 -/
theorem t8 : stepN B call inl m 8 [] = ((call 11 [(.v (.int .i64) ((7 : Int))), (.v (.int .i64) ((3 : Int))), (.v (.int .i64) ((12 : Int)))]).bind fun (v0 : ByteArray) => some (ByteArray.toList v0 == (ByteArray.mk #[(102 : UInt8), (97 : UInt8), (114 : UInt8), (45 : UInt8), (51 : UInt8), (45 : UInt8), (49 : UInt8), (50 : UInt8)]).toList) : Option Bool) := by kernel_rfl
/-! function 9 -/
def s9_27 (a0 : ByteArray) (x9 : Int) : St := { t := [(.v .str (a0)), (.raw undef), .bad, .bad, .bad, (.v (.int .i64) (x9)), .bad, .bad, .bad, .bad, .bad, .bad, .bad, .bad, .bad, .bad, .bad, .bad, .bad, .bad, .bad, .bad, .bad, .bad, .bad, .bad, .bad, .bad, .bad, .bad, .bad, .bad, .bad, .bad, .bad, .bad, .bad, .bad, .bad, .bad, .bad, .bad, .bad, .bad, .bad, .bad, .bad, .bad, .bad, .bad, .bad, .bad, .bad, .bad, .bad, .bad, .bad, .bad, .bad, .bad, .bad, .bad, .bad, .bad, .bad, .bad, .bad], bx := [], live := 0, g := [] }
def s9_27x29 (y0 : ByteArray) (y1 : Int) (y2 : ByteArray) : St := { t := [(.v .str (y0)), (.raw undef), (.v (.int .i64) (y1)), (.v (.int .i64) ((0 : Int))), (.v (.int .i64) ((0 : Int))), (.v (.int .i64) (y1)), .bad, .bad, .bad, .bad, .bad, .bad, (.v (.int .i64) (y1)), (.v .bool (decide (y1 ≤ (8 : Int)))), .bad, .bad, (.v .str (y0)), (.v .bool (!ByteArray.toList y0 == (ByteArray.mk #[]).toList)), (.v .bool (true)), (.v .str (y0)), (.v (.int .i64) (y1)), (.v .str (y2)), (.v .bool (ByteArray.toList y0 == ByteArray.toList y2)), (.v .bool (ByteArray.toList y0 == ByteArray.toList y2)), (.v (.int .i64) (y1)), .bad, .bad, .bad, .bad, .bad, .bad, .bad, .bad, .bad, .bad, .bad, .bad, .bad, .bad, .bad, .bad, .bad, .bad, .bad, .bad, .bad, .bad, .bad, .bad, .bad, .bad, .bad, .bad, .bad, .bad, .bad, .bad, .bad, .bad, .bad, .bad, .bad, .bad, .bad, .bad, .bad, .bad], bx := [none, none, none, none, none, none, none, none, none, none, none, none, none, none], live := 0, g := [] }
def s9_27x36 (y0 : ByteArray) (y1 : Int) (y2 : ByteArray) (y3 : ByteArray) (y4 : (ByteArray × Bool × Unit)) (y5 : ByteArray) (y6 : (ByteArray × ByteArray × Bool × Unit)) (y7 : (Int × Bool × Unit)) (y8 : (Int × Bool × Unit)) : St := { t := [(.v .str (y0)), (.raw undef), .bad, .bad, .bad, (.v (.int .i64) (y1)), (.v .str (y6.snd.fst)), (.v .bool (y8.snd.fst)), (.v (.int .i64) (y7.fst)), (.v .bool (y7.snd.fst)), (.v .str (y6.fst)), (.v (.int .i64) (y8.fst)), (.v (.int .i64) (y1)), (.v .bool (decide (y1 ≤ (8 : Int)))), .bad, .bad, (.v .str (y0)), (.v .bool (!ByteArray.toList y0 == (ByteArray.mk #[]).toList)), (.v .bool (true)), (.v .str (y0)), (.v (.int .i64) (y1)), (.v .str (y2)), (.v .bool (ByteArray.toList y0 == ByteArray.toList y2)), (.v .bool (ByteArray.toList y0 == ByteArray.toList y2)), .bad, (.tup [(.v .str (y4.fst)), (.v .bool (y4.snd.fst))]), (.v .str (y0)), (.v (.int .i64) (y1)), (.v .str (y3)), (.tup [(.v .str (y4.fst)), (.v .bool (y4.snd.fst))]), (.v .str (y4.fst)), (.v .bool (y4.snd.fst)), (.v .bool (y4.snd.fst)), (.v .bool (!y4.snd.fst)), (.v .bool (false)), (.v (.int .i64) (y1)), (.v .str (y5)), (.v .bool (ByteArray.toList y5 == (ByteArray.mk #[]).toList)), (.v .bool (ByteArray.toList y5 == (ByteArray.mk #[]).toList)), (.v (.int .i64) (y1)), (.v .bool (y1 == (7 : Int))), (.tup [(.v .str (y6.fst)), (.v .str (y6.snd.fst)), (.v .bool (y6.snd.snd.fst))]), (.v .str (y4.fst)), (.tup [(.v .str (y6.fst)), (.v .str (y6.snd.fst)), (.v .bool (y6.snd.snd.fst))]), (.v .str (y6.fst)), (.v .str (y6.snd.fst)), (.v .bool (y6.snd.snd.fst)), (.v .bool (y6.snd.snd.fst)), (.tup [(.v (.int .i64) (y7.fst)), (.v .bool (y7.snd.fst))]), (.v .str (y6.fst)), (.tup [(.v (.int .i64) (y7.fst)), (.v .bool (y7.snd.fst))]), (.v (.int .i64) (y7.fst)), (.v .bool (y7.snd.fst)), (.tup [(.v (.int .i64) (y8.fst)), (.v .bool (y8.snd.fst))]), (.v .str (y6.snd.fst)), (.tup [(.v (.int .i64) (y8.fst)), (.v .bool (y8.snd.fst))]), (.v (.int .i64) (y8.fst)), (.v .bool (y8.snd.fst)), (.v .bool (y7.snd.fst)), (.v .bool (!y7.snd.fst)), (.v .bool (false)), (.v .bool (y8.snd.fst)), (.v .bool (!y8.snd.fst)), (.v .bool (!y8.snd.fst)), .bad, .bad, .bad], bx := [none, none, none, none, none, none, none, none, none, none, none, none, none, none, none, none, none, none, none, none, none, none, none, none, none, none, none, none, none, none, none, none, none, none, none, none, none, none, none, none, none, none, none, none, none, none, none, none, none, none, none, none, none, none, none, none, none, none, none, none, none], live := 0, g := [] }
def s9_27x37 (y0 : ByteArray) (y1 : Int) (y2 : ByteArray) (y3 : ByteArray) (y4 : (ByteArray × Bool × Unit)) (y5 : ByteArray) (y6 : (ByteArray × ByteArray × Bool × Unit)) (y7 : (Int × Bool × Unit)) (y8 : (Int × Bool × Unit)) : St := { t := [(.v .str (y0)), (.raw undef), (.v (.int .i64) (y1)), (.v (.int .i64) (y7.fst)), (.v (.int .i64) (y8.fst)), (.v (.int .i64) (y1)), (.v .str (y6.snd.fst)), (.v .bool (y8.snd.fst)), (.v (.int .i64) (y7.fst)), (.v .bool (y7.snd.fst)), (.v .str (y6.fst)), (.v (.int .i64) (y8.fst)), (.v (.int .i64) (y1)), (.v .bool (decide (y1 ≤ (8 : Int)))), .bad, .bad, (.v .str (y0)), (.v .bool (!ByteArray.toList y0 == (ByteArray.mk #[]).toList)), (.v .bool (true)), (.v .str (y0)), (.v (.int .i64) (y1)), (.v .str (y2)), (.v .bool (ByteArray.toList y0 == ByteArray.toList y2)), (.v .bool (ByteArray.toList y0 == ByteArray.toList y2)), .bad, (.tup [(.v .str (y4.fst)), (.v .bool (y4.snd.fst))]), (.v .str (y0)), (.v (.int .i64) (y1)), (.v .str (y3)), (.tup [(.v .str (y4.fst)), (.v .bool (y4.snd.fst))]), (.v .str (y4.fst)), (.v .bool (y4.snd.fst)), (.v .bool (y4.snd.fst)), (.v .bool (!y4.snd.fst)), (.v .bool (false)), (.v (.int .i64) (y1)), (.v .str (y5)), (.v .bool (ByteArray.toList y5 == (ByteArray.mk #[]).toList)), (.v .bool (ByteArray.toList y5 == (ByteArray.mk #[]).toList)), (.v (.int .i64) (y1)), (.v .bool (y1 == (7 : Int))), (.tup [(.v .str (y6.fst)), (.v .str (y6.snd.fst)), (.v .bool (y6.snd.snd.fst))]), (.v .str (y4.fst)), (.tup [(.v .str (y6.fst)), (.v .str (y6.snd.fst)), (.v .bool (y6.snd.snd.fst))]), (.v .str (y6.fst)), (.v .str (y6.snd.fst)), (.v .bool (y6.snd.snd.fst)), (.v .bool (y6.snd.snd.fst)), (.tup [(.v (.int .i64) (y7.fst)), (.v .bool (y7.snd.fst))]), (.v .str (y6.fst)), (.tup [(.v (.int .i64) (y7.fst)), (.v .bool (y7.snd.fst))]), (.v (.int .i64) (y7.fst)), (.v .bool (y7.snd.fst)), (.tup [(.v (.int .i64) (y8.fst)), (.v .bool (y8.snd.fst))]), (.v .str (y6.snd.fst)), (.tup [(.v (.int .i64) (y8.fst)), (.v .bool (y8.snd.fst))]), (.v (.int .i64) (y8.fst)), (.v .bool (y8.snd.fst)), (.v .bool (y7.snd.fst)), (.v .bool (!y7.snd.fst)), (.v .bool (false)), (.v .bool (y8.snd.fst)), (.v .bool (!y8.snd.fst)), (.v .bool (!y8.snd.fst)), (.v (.int .i64) (y1)), (.v (.int .i64) (y7.fst)), (.v (.int .i64) (y8.fst))], bx := [none, none, none, none, none, none, none, none, none, none, none, none, none, none, none, none, none, none, none, none, none, none, none, none, none, none, none, none, none, none, none, none, none, none, none, none, none, none, none, none, none, none, none, none, none, none, none, none, none, none, none, none, none, none, none, none, none, none, none, none, none, none, none, none, none, none, none], live := 0, g := [] }
def s9_27x38 (y0 : ByteArray) (y1 : Int) (y2 : ByteArray) (y3 : ByteArray) (y4 : (ByteArray × Bool × Unit)) (y5 : ByteArray) (y6 : (ByteArray × ByteArray × Bool × Unit)) (y7 : (Int × Bool × Unit)) (y8 : (Int × Bool × Unit)) : St := { t := [(.v .str (y0)), (.raw undef), .bad, .bad, .bad, (.v (.int .i64) (y1)), (.v .str (y6.snd.fst)), (.v .bool (y8.snd.fst)), (.v (.int .i64) (y7.fst)), (.v .bool (y7.snd.fst)), (.v .str (y6.fst)), (.v (.int .i64) (y8.fst)), (.v (.int .i64) (y1)), (.v .bool (decide (y1 ≤ (8 : Int)))), .bad, .bad, (.v .str (y0)), (.v .bool (!ByteArray.toList y0 == (ByteArray.mk #[]).toList)), (.v .bool (true)), (.v .str (y0)), (.v (.int .i64) (y1)), (.v .str (y2)), (.v .bool (ByteArray.toList y0 == ByteArray.toList y2)), (.v .bool (ByteArray.toList y0 == ByteArray.toList y2)), .bad, (.tup [(.v .str (y4.fst)), (.v .bool (y4.snd.fst))]), (.v .str (y0)), (.v (.int .i64) (y1)), (.v .str (y3)), (.tup [(.v .str (y4.fst)), (.v .bool (y4.snd.fst))]), (.v .str (y4.fst)), (.v .bool (y4.snd.fst)), (.v .bool (y4.snd.fst)), (.v .bool (!y4.snd.fst)), (.v .bool (false)), (.v (.int .i64) (y1)), (.v .str (y5)), (.v .bool (ByteArray.toList y5 == (ByteArray.mk #[]).toList)), (.v .bool (ByteArray.toList y5 == (ByteArray.mk #[]).toList)), (.v (.int .i64) (y1)), (.v .bool (y1 == (7 : Int))), (.tup [(.v .str (y6.fst)), (.v .str (y6.snd.fst)), (.v .bool (y6.snd.snd.fst))]), (.v .str (y4.fst)), (.tup [(.v .str (y6.fst)), (.v .str (y6.snd.fst)), (.v .bool (y6.snd.snd.fst))]), (.v .str (y6.fst)), (.v .str (y6.snd.fst)), (.v .bool (y6.snd.snd.fst)), (.v .bool (y6.snd.snd.fst)), (.tup [(.v (.int .i64) (y7.fst)), (.v .bool (y7.snd.fst))]), (.v .str (y6.fst)), (.tup [(.v (.int .i64) (y7.fst)), (.v .bool (y7.snd.fst))]), (.v (.int .i64) (y7.fst)), (.v .bool (y7.snd.fst)), (.tup [(.v (.int .i64) (y8.fst)), (.v .bool (y8.snd.fst))]), (.v .str (y6.snd.fst)), (.tup [(.v (.int .i64) (y8.fst)), (.v .bool (y8.snd.fst))]), (.v (.int .i64) (y8.fst)), (.v .bool (y8.snd.fst)), (.v .bool (y7.snd.fst)), (.v .bool (!y7.snd.fst)), (.v .bool (!false)), (.raw undef), (.raw undef), (.v .bool (true)), .bad, .bad, .bad], bx := [none, none, none, none, none, none, none, none, none, none, none, none, none, none, none, none, none, none, none, none, none, none, none, none, none, none, none, none, none, none, none, none, none, none, none, none, none, none, none, none, none, none, none, none, none, none, none, none, none, none, none, none, none, none, none, none, none, none, none, none, none], live := 0, g := [] }
def s9_27x40 (y0 : ByteArray) (y1 : Int) (y2 : ByteArray) (y3 : ByteArray) (y4 : (ByteArray × Bool × Unit)) (y5 : ByteArray) (y6 : (ByteArray × ByteArray × Bool × Unit)) (y7 : (Int × Bool × Unit)) : St := { t := [(.v .str (y0)), (.raw undef), .bad, .bad, .bad, (.v (.int .i64) (y1)), (.v .str (y6.snd.fst)), (.v .bool (y7.snd.fst)), (.v (.int .i64) ((0 : Int))), (.v .bool (y6.snd.snd.fst)), (.v .str (y6.fst)), (.v (.int .i64) (y7.fst)), (.v (.int .i64) (y1)), (.v .bool (decide (y1 ≤ (8 : Int)))), .bad, .bad, (.v .str (y0)), (.v .bool (!ByteArray.toList y0 == (ByteArray.mk #[]).toList)), (.v .bool (true)), (.v .str (y0)), (.v (.int .i64) (y1)), (.v .str (y2)), (.v .bool (ByteArray.toList y0 == ByteArray.toList y2)), (.v .bool (ByteArray.toList y0 == ByteArray.toList y2)), .bad, (.tup [(.v .str (y4.fst)), (.v .bool (y4.snd.fst))]), (.v .str (y0)), (.v (.int .i64) (y1)), (.v .str (y3)), (.tup [(.v .str (y4.fst)), (.v .bool (y4.snd.fst))]), (.v .str (y4.fst)), (.v .bool (y4.snd.fst)), (.v .bool (y4.snd.fst)), (.v .bool (!y4.snd.fst)), (.v .bool (false)), (.v (.int .i64) (y1)), (.v .str (y5)), (.v .bool (ByteArray.toList y5 == (ByteArray.mk #[]).toList)), (.v .bool (ByteArray.toList y5 == (ByteArray.mk #[]).toList)), (.v (.int .i64) (y1)), (.v .bool (y1 == (7 : Int))), (.tup [(.v .str (y6.fst)), (.v .str (y6.snd.fst)), (.v .bool (y6.snd.snd.fst))]), (.v .str (y4.fst)), (.tup [(.v .str (y6.fst)), (.v .str (y6.snd.fst)), (.v .bool (y6.snd.snd.fst))]), (.v .str (y6.fst)), (.v .str (y6.snd.fst)), (.v .bool (y6.snd.snd.fst)), (.v .bool (y6.snd.snd.fst)), .bad, .bad, .bad, .bad, .bad, (.tup [(.v (.int .i64) (y7.fst)), (.v .bool (y7.snd.fst))]), (.v .str (y6.snd.fst)), (.tup [(.v (.int .i64) (y7.fst)), (.v .bool (y7.snd.fst))]), (.v (.int .i64) (y7.fst)), (.v .bool (y7.snd.fst)), (.v .bool (y6.snd.snd.fst)), (.v .bool (!y6.snd.snd.fst)), (.v .bool (false)), (.v .bool (y7.snd.fst)), (.v .bool (!y7.snd.fst)), (.v .bool (!y7.snd.fst)), .bad, .bad, .bad], bx := [none, none, none, none, none, none, none, none, none, none, none, none, none, none, none, none, none, none, none, none, none, none, none, none, none, none, none, none, none, none, none, none, none, none, none, none, none, none, none, none, none, none, none, none, none, none, none, none, none, none, none, none, none, none], live := 0, g := [] }
def s9_27x41 (y0 : ByteArray) (y1 : Int) (y2 : ByteArray) (y3 : ByteArray) (y4 : (ByteArray × Bool × Unit)) (y5 : ByteArray) (y6 : (ByteArray × ByteArray × Bool × Unit)) (y7 : (Int × Bool × Unit)) : St := { t := [(.v .str (y0)), (.raw undef), (.v (.int .i64) (y1)), (.v (.int .i64) ((0 : Int))), (.v (.int .i64) (y7.fst)), (.v (.int .i64) (y1)), (.v .str (y6.snd.fst)), (.v .bool (y7.snd.fst)), (.v (.int .i64) ((0 : Int))), (.v .bool (y6.snd.snd.fst)), (.v .str (y6.fst)), (.v (.int .i64) (y7.fst)), (.v (.int .i64) (y1)), (.v .bool (decide (y1 ≤ (8 : Int)))), .bad, .bad, (.v .str (y0)), (.v .bool (!ByteArray.toList y0 == (ByteArray.mk #[]).toList)), (.v .bool (true)), (.v .str (y0)), (.v (.int .i64) (y1)), (.v .str (y2)), (.v .bool (ByteArray.toList y0 == ByteArray.toList y2)), (.v .bool (ByteArray.toList y0 == ByteArray.toList y2)), .bad, (.tup [(.v .str (y4.fst)), (.v .bool (y4.snd.fst))]), (.v .str (y0)), (.v (.int .i64) (y1)), (.v .str (y3)), (.tup [(.v .str (y4.fst)), (.v .bool (y4.snd.fst))]), (.v .str (y4.fst)), (.v .bool (y4.snd.fst)), (.v .bool (y4.snd.fst)), (.v .bool (!y4.snd.fst)), (.v .bool (false)), (.v (.int .i64) (y1)), (.v .str (y5)), (.v .bool (ByteArray.toList y5 == (ByteArray.mk #[]).toList)), (.v .bool (ByteArray.toList y5 == (ByteArray.mk #[]).toList)), (.v (.int .i64) (y1)), (.v .bool (y1 == (7 : Int))), (.tup [(.v .str (y6.fst)), (.v .str (y6.snd.fst)), (.v .bool (y6.snd.snd.fst))]), (.v .str (y4.fst)), (.tup [(.v .str (y6.fst)), (.v .str (y6.snd.fst)), (.v .bool (y6.snd.snd.fst))]), (.v .str (y6.fst)), (.v .str (y6.snd.fst)), (.v .bool (y6.snd.snd.fst)), (.v .bool (y6.snd.snd.fst)), .bad, .bad, .bad, .bad, .bad, (.tup [(.v (.int .i64) (y7.fst)), (.v .bool (y7.snd.fst))]), (.v .str (y6.snd.fst)), (.tup [(.v (.int .i64) (y7.fst)), (.v .bool (y7.snd.fst))]), (.v (.int .i64) (y7.fst)), (.v .bool (y7.snd.fst)), (.v .bool (y6.snd.snd.fst)), (.v .bool (!y6.snd.snd.fst)), (.v .bool (false)), (.v .bool (y7.snd.fst)), (.v .bool (!y7.snd.fst)), (.v .bool (!y7.snd.fst)), (.v (.int .i64) (y1)), (.v (.int .i64) ((0 : Int))), (.v (.int .i64) (y7.fst))], bx := [none, none, none, none, none, none, none, none, none, none, none, none, none, none, none, none, none, none, none, none, none, none, none, none, none, none, none, none, none, none, none, none, none, none, none, none, none, none, none, none, none, none, none, none, none, none, none, none, none, none, none, none, none, none, none, none, none, none, none, none], live := 0, g := [] }
def s9_27x42 (y0 : ByteArray) (y1 : Int) (y2 : ByteArray) (y3 : ByteArray) (y4 : (ByteArray × Bool × Unit)) (y5 : ByteArray) (y6 : (ByteArray × ByteArray × Bool × Unit)) (y7 : (Int × Bool × Unit)) : St := { t := [(.v .str (y0)), (.raw undef), .bad, .bad, .bad, (.v (.int .i64) (y1)), (.v .str (y6.snd.fst)), (.v .bool (y7.snd.fst)), (.v (.int .i64) ((0 : Int))), (.v .bool (y6.snd.snd.fst)), (.v .str (y6.fst)), (.v (.int .i64) (y7.fst)), (.v (.int .i64) (y1)), (.v .bool (decide (y1 ≤ (8 : Int)))), .bad, .bad, (.v .str (y0)), (.v .bool (!ByteArray.toList y0 == (ByteArray.mk #[]).toList)), (.v .bool (true)), (.v .str (y0)), (.v (.int .i64) (y1)), (.v .str (y2)), (.v .bool (ByteArray.toList y0 == ByteArray.toList y2)), (.v .bool (ByteArray.toList y0 == ByteArray.toList y2)), .bad, (.tup [(.v .str (y4.fst)), (.v .bool (y4.snd.fst))]), (.v .str (y0)), (.v (.int .i64) (y1)), (.v .str (y3)), (.tup [(.v .str (y4.fst)), (.v .bool (y4.snd.fst))]), (.v .str (y4.fst)), (.v .bool (y4.snd.fst)), (.v .bool (y4.snd.fst)), (.v .bool (!y4.snd.fst)), (.v .bool (false)), (.v (.int .i64) (y1)), (.v .str (y5)), (.v .bool (ByteArray.toList y5 == (ByteArray.mk #[]).toList)), (.v .bool (ByteArray.toList y5 == (ByteArray.mk #[]).toList)), (.v (.int .i64) (y1)), (.v .bool (y1 == (7 : Int))), (.tup [(.v .str (y6.fst)), (.v .str (y6.snd.fst)), (.v .bool (y6.snd.snd.fst))]), (.v .str (y4.fst)), (.tup [(.v .str (y6.fst)), (.v .str (y6.snd.fst)), (.v .bool (y6.snd.snd.fst))]), (.v .str (y6.fst)), (.v .str (y6.snd.fst)), (.v .bool (y6.snd.snd.fst)), (.v .bool (y6.snd.snd.fst)), .bad, .bad, .bad, .bad, .bad, (.tup [(.v (.int .i64) (y7.fst)), (.v .bool (y7.snd.fst))]), (.v .str (y6.snd.fst)), (.tup [(.v (.int .i64) (y7.fst)), (.v .bool (y7.snd.fst))]), (.v (.int .i64) (y7.fst)), (.v .bool (y7.snd.fst)), (.v .bool (y6.snd.snd.fst)), (.v .bool (!y6.snd.snd.fst)), (.v .bool (!false)), (.raw undef), (.raw undef), (.v .bool (true)), .bad, .bad, .bad], bx := [none, none, none, none, none, none, none, none, none, none, none, none, none, none, none, none, none, none, none, none, none, none, none, none, none, none, none, none, none, none, none, none, none, none, none, none, none, none, none, none, none, none, none, none, none, none, none, none, none, none, none, none, none, none], live := 0, g := [] }
def s9_27x44 (y0 : ByteArray) (y1 : Int) (y2 : ByteArray) (y3 : ByteArray) (y4 : (ByteArray × Bool × Unit)) (y5 : ByteArray) (y6 : (Int × Bool × Unit)) : St := { t := [(.v .str (y0)), (.raw undef), .bad, .bad, .bad, (.v (.int .i64) (y1)), (.v .str (y4.fst)), (.v .bool (y6.snd.fst)), (.v (.int .i64) ((0 : Int))), (.v .bool (true)), .bad, (.v (.int .i64) (y6.fst)), (.v (.int .i64) (y1)), (.v .bool (decide (y1 ≤ (8 : Int)))), .bad, .bad, (.v .str (y0)), (.v .bool (!ByteArray.toList y0 == (ByteArray.mk #[]).toList)), (.v .bool (true)), (.v .str (y0)), (.v (.int .i64) (y1)), (.v .str (y2)), (.v .bool (ByteArray.toList y0 == ByteArray.toList y2)), (.v .bool (ByteArray.toList y0 == ByteArray.toList y2)), .bad, (.tup [(.v .str (y4.fst)), (.v .bool (y4.snd.fst))]), (.v .str (y0)), (.v (.int .i64) (y1)), (.v .str (y3)), (.tup [(.v .str (y4.fst)), (.v .bool (y4.snd.fst))]), (.v .str (y4.fst)), (.v .bool (y4.snd.fst)), (.v .bool (y4.snd.fst)), (.v .bool (!y4.snd.fst)), (.v .bool (false)), (.v (.int .i64) (y1)), (.v .str (y5)), (.v .bool (ByteArray.toList y5 == (ByteArray.mk #[]).toList)), (.v .bool (ByteArray.toList y5 == (ByteArray.mk #[]).toList)), (.v (.int .i64) (y1)), (.v .bool (y1 == (7 : Int))), .bad, .bad, .bad, .bad, .bad, .bad, .bad, .bad, .bad, .bad, .bad, .bad, (.tup [(.v (.int .i64) (y6.fst)), (.v .bool (y6.snd.fst))]), (.v .str (y4.fst)), (.tup [(.v (.int .i64) (y6.fst)), (.v .bool (y6.snd.fst))]), (.v (.int .i64) (y6.fst)), (.v .bool (y6.snd.fst)), (.v .bool (true)), (.v .bool (!true)), (.v .bool (false)), (.v .bool (y6.snd.fst)), (.v .bool (!y6.snd.fst)), (.v .bool (!y6.snd.fst)), .bad, .bad, .bad], bx := [none, none, none, none, none, none, none, none, none, none, none, none, none, none, none, none, none, none, none, none, none, none, none, none, none, none, none, none, none, none, none, none, none, none, none, none, none, none, none, none, none, none, none], live := 0, g := [] }
def s9_27x45 (y0 : ByteArray) (y1 : Int) (y2 : ByteArray) (y3 : ByteArray) (y4 : (ByteArray × Bool × Unit)) (y5 : ByteArray) (y6 : (Int × Bool × Unit)) : St := { t := [(.v .str (y0)), (.raw undef), (.v (.int .i64) (y1)), (.v (.int .i64) ((0 : Int))), (.v (.int .i64) (y6.fst)), (.v (.int .i64) (y1)), (.v .str (y4.fst)), (.v .bool (y6.snd.fst)), (.v (.int .i64) ((0 : Int))), (.v .bool (true)), .bad, (.v (.int .i64) (y6.fst)), (.v (.int .i64) (y1)), (.v .bool (decide (y1 ≤ (8 : Int)))), .bad, .bad, (.v .str (y0)), (.v .bool (!ByteArray.toList y0 == (ByteArray.mk #[]).toList)), (.v .bool (true)), (.v .str (y0)), (.v (.int .i64) (y1)), (.v .str (y2)), (.v .bool (ByteArray.toList y0 == ByteArray.toList y2)), (.v .bool (ByteArray.toList y0 == ByteArray.toList y2)), .bad, (.tup [(.v .str (y4.fst)), (.v .bool (y4.snd.fst))]), (.v .str (y0)), (.v (.int .i64) (y1)), (.v .str (y3)), (.tup [(.v .str (y4.fst)), (.v .bool (y4.snd.fst))]), (.v .str (y4.fst)), (.v .bool (y4.snd.fst)), (.v .bool (y4.snd.fst)), (.v .bool (!y4.snd.fst)), (.v .bool (false)), (.v (.int .i64) (y1)), (.v .str (y5)), (.v .bool (ByteArray.toList y5 == (ByteArray.mk #[]).toList)), (.v .bool (ByteArray.toList y5 == (ByteArray.mk #[]).toList)), (.v (.int .i64) (y1)), (.v .bool (y1 == (7 : Int))), .bad, .bad, .bad, .bad, .bad, .bad, .bad, .bad, .bad, .bad, .bad, .bad, (.tup [(.v (.int .i64) (y6.fst)), (.v .bool (y6.snd.fst))]), (.v .str (y4.fst)), (.tup [(.v (.int .i64) (y6.fst)), (.v .bool (y6.snd.fst))]), (.v (.int .i64) (y6.fst)), (.v .bool (y6.snd.fst)), (.v .bool (true)), (.v .bool (!true)), (.v .bool (false)), (.v .bool (y6.snd.fst)), (.v .bool (!y6.snd.fst)), (.v .bool (!y6.snd.fst)), (.v (.int .i64) (y1)), (.v (.int .i64) ((0 : Int))), (.v (.int .i64) (y6.fst))], bx := [none, none, none, none, none, none, none, none, none, none, none, none, none, none, none, none, none, none, none, none, none, none, none, none, none, none, none, none, none, none, none, none, none, none, none, none, none, none, none, none, none, none, none, none, none, none, none, none, none], live := 0, g := [] }
def s9_27x52 (y0 : ByteArray) (y1 : Int) (y2 : ByteArray) (y3 : (ByteArray × Bool × Unit)) (y4 : ByteArray) (y5 : (ByteArray × ByteArray × Bool × Unit)) (y6 : (Int × Bool × Unit)) (y7 : (Int × Bool × Unit)) : St := { t := [(.v .str (y0)), (.raw undef), .bad, .bad, .bad, (.v (.int .i64) (y1)), (.v .str (y5.snd.fst)), (.v .bool (y7.snd.fst)), (.v (.int .i64) (y6.fst)), (.v .bool (y6.snd.fst)), (.v .str (y5.fst)), (.v (.int .i64) (y7.fst)), (.v (.int .i64) (y1)), (.v .bool (decide (y1 ≤ (8 : Int)))), .bad, .bad, (.v .str (y0)), (.v .bool (!ByteArray.toList y0 == (ByteArray.mk #[]).toList)), (.v .bool (!true)), (.raw undef), (.raw undef), (.raw undef), (.raw undef), (.v .bool (false)), .bad, (.tup [(.v .str (y3.fst)), (.v .bool (y3.snd.fst))]), (.v .str (y0)), (.v (.int .i64) (y1)), (.v .str (y2)), (.tup [(.v .str (y3.fst)), (.v .bool (y3.snd.fst))]), (.v .str (y3.fst)), (.v .bool (y3.snd.fst)), (.v .bool (y3.snd.fst)), (.v .bool (!y3.snd.fst)), (.v .bool (false)), (.v (.int .i64) (y1)), (.v .str (y4)), (.v .bool (ByteArray.toList y4 == (ByteArray.mk #[]).toList)), (.v .bool (ByteArray.toList y4 == (ByteArray.mk #[]).toList)), (.v (.int .i64) (y1)), (.v .bool (y1 == (7 : Int))), (.tup [(.v .str (y5.fst)), (.v .str (y5.snd.fst)), (.v .bool (y5.snd.snd.fst))]), (.v .str (y3.fst)), (.tup [(.v .str (y5.fst)), (.v .str (y5.snd.fst)), (.v .bool (y5.snd.snd.fst))]), (.v .str (y5.fst)), (.v .str (y5.snd.fst)), (.v .bool (y5.snd.snd.fst)), (.v .bool (y5.snd.snd.fst)), (.tup [(.v (.int .i64) (y6.fst)), (.v .bool (y6.snd.fst))]), (.v .str (y5.fst)), (.tup [(.v (.int .i64) (y6.fst)), (.v .bool (y6.snd.fst))]), (.v (.int .i64) (y6.fst)), (.v .bool (y6.snd.fst)), (.tup [(.v (.int .i64) (y7.fst)), (.v .bool (y7.snd.fst))]), (.v .str (y5.snd.fst)), (.tup [(.v (.int .i64) (y7.fst)), (.v .bool (y7.snd.fst))]), (.v (.int .i64) (y7.fst)), (.v .bool (y7.snd.fst)), (.v .bool (y6.snd.fst)), (.v .bool (!y6.snd.fst)), (.v .bool (false)), (.v .bool (y7.snd.fst)), (.v .bool (!y7.snd.fst)), (.v .bool (!y7.snd.fst)), .bad, .bad, .bad], bx := [none, none, none, none, none, none, none, none, none, none, none, none, none, none, none, none, none, none, none, none, none, none, none, none, none, none, none, none, none, none, none, none, none, none, none, none, none, none, none, none, none, none, none, none, none, none, none, none, none, none, none, none, none, none, none, none, none, none, none, none, none], live := 0, g := [] }
def s9_27x53 (y0 : ByteArray) (y1 : Int) (y2 : ByteArray) (y3 : (ByteArray × Bool × Unit)) (y4 : ByteArray) (y5 : (ByteArray × ByteArray × Bool × Unit)) (y6 : (Int × Bool × Unit)) (y7 : (Int × Bool × Unit)) : St := { t := [(.v .str (y0)), (.raw undef), (.v (.int .i64) (y1)), (.v (.int .i64) (y6.fst)), (.v (.int .i64) (y7.fst)), (.v (.int .i64) (y1)), (.v .str (y5.snd.fst)), (.v .bool (y7.snd.fst)), (.v (.int .i64) (y6.fst)), (.v .bool (y6.snd.fst)), (.v .str (y5.fst)), (.v (.int .i64) (y7.fst)), (.v (.int .i64) (y1)), (.v .bool (decide (y1 ≤ (8 : Int)))), .bad, .bad, (.v .str (y0)), (.v .bool (!ByteArray.toList y0 == (ByteArray.mk #[]).toList)), (.v .bool (!true)), (.raw undef), (.raw undef), (.raw undef), (.raw undef), (.v .bool (false)), .bad, (.tup [(.v .str (y3.fst)), (.v .bool (y3.snd.fst))]), (.v .str (y0)), (.v (.int .i64) (y1)), (.v .str (y2)), (.tup [(.v .str (y3.fst)), (.v .bool (y3.snd.fst))]), (.v .str (y3.fst)), (.v .bool (y3.snd.fst)), (.v .bool (y3.snd.fst)), (.v .bool (!y3.snd.fst)), (.v .bool (false)), (.v (.int .i64) (y1)), (.v .str (y4)), (.v .bool (ByteArray.toList y4 == (ByteArray.mk #[]).toList)), (.v .bool (ByteArray.toList y4 == (ByteArray.mk #[]).toList)), (.v (.int .i64) (y1)), (.v .bool (y1 == (7 : Int))), (.tup [(.v .str (y5.fst)), (.v .str (y5.snd.fst)), (.v .bool (y5.snd.snd.fst))]), (.v .str (y3.fst)), (.tup [(.v .str (y5.fst)), (.v .str (y5.snd.fst)), (.v .bool (y5.snd.snd.fst))]), (.v .str (y5.fst)), (.v .str (y5.snd.fst)), (.v .bool (y5.snd.snd.fst)), (.v .bool (y5.snd.snd.fst)), (.tup [(.v (.int .i64) (y6.fst)), (.v .bool (y6.snd.fst))]), (.v .str (y5.fst)), (.tup [(.v (.int .i64) (y6.fst)), (.v .bool (y6.snd.fst))]), (.v (.int .i64) (y6.fst)), (.v .bool (y6.snd.fst)), (.tup [(.v (.int .i64) (y7.fst)), (.v .bool (y7.snd.fst))]), (.v .str (y5.snd.fst)), (.tup [(.v (.int .i64) (y7.fst)), (.v .bool (y7.snd.fst))]), (.v (.int .i64) (y7.fst)), (.v .bool (y7.snd.fst)), (.v .bool (y6.snd.fst)), (.v .bool (!y6.snd.fst)), (.v .bool (false)), (.v .bool (y7.snd.fst)), (.v .bool (!y7.snd.fst)), (.v .bool (!y7.snd.fst)), (.v (.int .i64) (y1)), (.v (.int .i64) (y6.fst)), (.v (.int .i64) (y7.fst))], bx := [none, none, none, none, none, none, none, none, none, none, none, none, none, none, none, none, none, none, none, none, none, none, none, none, none, none, none, none, none, none, none, none, none, none, none, none, none, none, none, none, none, none, none, none, none, none, none, none, none, none, none, none, none, none, none, none, none, none, none, none, none, none, none, none, none, none, none], live := 0, g := [] }
def s9_27x54 (y0 : ByteArray) (y1 : Int) (y2 : ByteArray) (y3 : (ByteArray × Bool × Unit)) (y4 : ByteArray) (y5 : (ByteArray × ByteArray × Bool × Unit)) (y6 : (Int × Bool × Unit)) (y7 : (Int × Bool × Unit)) : St := { t := [(.v .str (y0)), (.raw undef), .bad, .bad, .bad, (.v (.int .i64) (y1)), (.v .str (y5.snd.fst)), (.v .bool (y7.snd.fst)), (.v (.int .i64) (y6.fst)), (.v .bool (y6.snd.fst)), (.v .str (y5.fst)), (.v (.int .i64) (y7.fst)), (.v (.int .i64) (y1)), (.v .bool (decide (y1 ≤ (8 : Int)))), .bad, .bad, (.v .str (y0)), (.v .bool (!ByteArray.toList y0 == (ByteArray.mk #[]).toList)), (.v .bool (!true)), (.raw undef), (.raw undef), (.raw undef), (.raw undef), (.v .bool (false)), .bad, (.tup [(.v .str (y3.fst)), (.v .bool (y3.snd.fst))]), (.v .str (y0)), (.v (.int .i64) (y1)), (.v .str (y2)), (.tup [(.v .str (y3.fst)), (.v .bool (y3.snd.fst))]), (.v .str (y3.fst)), (.v .bool (y3.snd.fst)), (.v .bool (y3.snd.fst)), (.v .bool (!y3.snd.fst)), (.v .bool (false)), (.v (.int .i64) (y1)), (.v .str (y4)), (.v .bool (ByteArray.toList y4 == (ByteArray.mk #[]).toList)), (.v .bool (ByteArray.toList y4 == (ByteArray.mk #[]).toList)), (.v (.int .i64) (y1)), (.v .bool (y1 == (7 : Int))), (.tup [(.v .str (y5.fst)), (.v .str (y5.snd.fst)), (.v .bool (y5.snd.snd.fst))]), (.v .str (y3.fst)), (.tup [(.v .str (y5.fst)), (.v .str (y5.snd.fst)), (.v .bool (y5.snd.snd.fst))]), (.v .str (y5.fst)), (.v .str (y5.snd.fst)), (.v .bool (y5.snd.snd.fst)), (.v .bool (y5.snd.snd.fst)), (.tup [(.v (.int .i64) (y6.fst)), (.v .bool (y6.snd.fst))]), (.v .str (y5.fst)), (.tup [(.v (.int .i64) (y6.fst)), (.v .bool (y6.snd.fst))]), (.v (.int .i64) (y6.fst)), (.v .bool (y6.snd.fst)), (.tup [(.v (.int .i64) (y7.fst)), (.v .bool (y7.snd.fst))]), (.v .str (y5.snd.fst)), (.tup [(.v (.int .i64) (y7.fst)), (.v .bool (y7.snd.fst))]), (.v (.int .i64) (y7.fst)), (.v .bool (y7.snd.fst)), (.v .bool (y6.snd.fst)), (.v .bool (!y6.snd.fst)), (.v .bool (!false)), (.raw undef), (.raw undef), (.v .bool (true)), .bad, .bad, .bad], bx := [none, none, none, none, none, none, none, none, none, none, none, none, none, none, none, none, none, none, none, none, none, none, none, none, none, none, none, none, none, none, none, none, none, none, none, none, none, none, none, none, none, none, none, none, none, none, none, none, none, none, none, none, none, none, none, none, none, none, none, none, none], live := 0, g := [] }
def s9_27x56 (y0 : ByteArray) (y1 : Int) (y2 : ByteArray) (y3 : (ByteArray × Bool × Unit)) (y4 : ByteArray) (y5 : (ByteArray × ByteArray × Bool × Unit)) (y6 : (Int × Bool × Unit)) : St := { t := [(.v .str (y0)), (.raw undef), .bad, .bad, .bad, (.v (.int .i64) (y1)), (.v .str (y5.snd.fst)), (.v .bool (y6.snd.fst)), (.v (.int .i64) ((0 : Int))), (.v .bool (y5.snd.snd.fst)), (.v .str (y5.fst)), (.v (.int .i64) (y6.fst)), (.v (.int .i64) (y1)), (.v .bool (decide (y1 ≤ (8 : Int)))), .bad, .bad, (.v .str (y0)), (.v .bool (!ByteArray.toList y0 == (ByteArray.mk #[]).toList)), (.v .bool (!true)), (.raw undef), (.raw undef), (.raw undef), (.raw undef), (.v .bool (false)), .bad, (.tup [(.v .str (y3.fst)), (.v .bool (y3.snd.fst))]), (.v .str (y0)), (.v (.int .i64) (y1)), (.v .str (y2)), (.tup [(.v .str (y3.fst)), (.v .bool (y3.snd.fst))]), (.v .str (y3.fst)), (.v .bool (y3.snd.fst)), (.v .bool (y3.snd.fst)), (.v .bool (!y3.snd.fst)), (.v .bool (false)), (.v (.int .i64) (y1)), (.v .str (y4)), (.v .bool (ByteArray.toList y4 == (ByteArray.mk #[]).toList)), (.v .bool (ByteArray.toList y4 == (ByteArray.mk #[]).toList)), (.v (.int .i64) (y1)), (.v .bool (y1 == (7 : Int))), (.tup [(.v .str (y5.fst)), (.v .str (y5.snd.fst)), (.v .bool (y5.snd.snd.fst))]), (.v .str (y3.fst)), (.tup [(.v .str (y5.fst)), (.v .str (y5.snd.fst)), (.v .bool (y5.snd.snd.fst))]), (.v .str (y5.fst)), (.v .str (y5.snd.fst)), (.v .bool (y5.snd.snd.fst)), (.v .bool (y5.snd.snd.fst)), .bad, .bad, .bad, .bad, .bad, (.tup [(.v (.int .i64) (y6.fst)), (.v .bool (y6.snd.fst))]), (.v .str (y5.snd.fst)), (.tup [(.v (.int .i64) (y6.fst)), (.v .bool (y6.snd.fst))]), (.v (.int .i64) (y6.fst)), (.v .bool (y6.snd.fst)), (.v .bool (y5.snd.snd.fst)), (.v .bool (!y5.snd.snd.fst)), (.v .bool (false)), (.v .bool (y6.snd.fst)), (.v .bool (!y6.snd.fst)), (.v .bool (!y6.snd.fst)), .bad, .bad, .bad], bx := [none, none, none, none, none, none, none, none, none, none, none, none, none, none, none, none, none, none, none, none, none, none, none, none, none, none, none, none, none, none, none, none, none, none, none, none, none, none, none, none, none, none, none, none, none, none, none, none, none, none, none, none, none, none], live := 0, g := [] }
def s9_27x57 (y0 : ByteArray) (y1 : Int) (y2 : ByteArray) (y3 : (ByteArray × Bool × Unit)) (y4 : ByteArray) (y5 : (ByteArray × ByteArray × Bool × Unit)) (y6 : (Int × Bool × Unit)) : St := { t := [(.v .str (y0)), (.raw undef), (.v (.int .i64) (y1)), (.v (.int .i64) ((0 : Int))), (.v (.int .i64) (y6.fst)), (.v (.int .i64) (y1)), (.v .str (y5.snd.fst)), (.v .bool (y6.snd.fst)), (.v (.int .i64) ((0 : Int))), (.v .bool (y5.snd.snd.fst)), (.v .str (y5.fst)), (.v (.int .i64) (y6.fst)), (.v (.int .i64) (y1)), (.v .bool (decide (y1 ≤ (8 : Int)))), .bad, .bad, (.v .str (y0)), (.v .bool (!ByteArray.toList y0 == (ByteArray.mk #[]).toList)), (.v .bool (!true)), (.raw undef), (.raw undef), (.raw undef), (.raw undef), (.v .bool (false)), .bad, (.tup [(.v .str (y3.fst)), (.v .bool (y3.snd.fst))]), (.v .str (y0)), (.v (.int .i64) (y1)), (.v .str (y2)), (.tup [(.v .str (y3.fst)), (.v .bool (y3.snd.fst))]), (.v .str (y3.fst)), (.v .bool (y3.snd.fst)), (.v .bool (y3.snd.fst)), (.v .bool (!y3.snd.fst)), (.v .bool (false)), (.v (.int .i64) (y1)), (.v .str (y4)), (.v .bool (ByteArray.toList y4 == (ByteArray.mk #[]).toList)), (.v .bool (ByteArray.toList y4 == (ByteArray.mk #[]).toList)), (.v (.int .i64) (y1)), (.v .bool (y1 == (7 : Int))), (.tup [(.v .str (y5.fst)), (.v .str (y5.snd.fst)), (.v .bool (y5.snd.snd.fst))]), (.v .str (y3.fst)), (.tup [(.v .str (y5.fst)), (.v .str (y5.snd.fst)), (.v .bool (y5.snd.snd.fst))]), (.v .str (y5.fst)), (.v .str (y5.snd.fst)), (.v .bool (y5.snd.snd.fst)), (.v .bool (y5.snd.snd.fst)), .bad, .bad, .bad, .bad, .bad, (.tup [(.v (.int .i64) (y6.fst)), (.v .bool (y6.snd.fst))]), (.v .str (y5.snd.fst)), (.tup [(.v (.int .i64) (y6.fst)), (.v .bool (y6.snd.fst))]), (.v (.int .i64) (y6.fst)), (.v .bool (y6.snd.fst)), (.v .bool (y5.snd.snd.fst)), (.v .bool (!y5.snd.snd.fst)), (.v .bool (false)), (.v .bool (y6.snd.fst)), (.v .bool (!y6.snd.fst)), (.v .bool (!y6.snd.fst)), (.v (.int .i64) (y1)), (.v (.int .i64) ((0 : Int))), (.v (.int .i64) (y6.fst))], bx := [none, none, none, none, none, none, none, none, none, none, none, none, none, none, none, none, none, none, none, none, none, none, none, none, none, none, none, none, none, none, none, none, none, none, none, none, none, none, none, none, none, none, none, none, none, none, none, none, none, none, none, none, none, none, none, none, none, none, none, none], live := 0, g := [] }
def s9_27x58 (y0 : ByteArray) (y1 : Int) (y2 : ByteArray) (y3 : (ByteArray × Bool × Unit)) (y4 : ByteArray) (y5 : (ByteArray × ByteArray × Bool × Unit)) (y6 : (Int × Bool × Unit)) : St := { t := [(.v .str (y0)), (.raw undef), .bad, .bad, .bad, (.v (.int .i64) (y1)), (.v .str (y5.snd.fst)), (.v .bool (y6.snd.fst)), (.v (.int .i64) ((0 : Int))), (.v .bool (y5.snd.snd.fst)), (.v .str (y5.fst)), (.v (.int .i64) (y6.fst)), (.v (.int .i64) (y1)), (.v .bool (decide (y1 ≤ (8 : Int)))), .bad, .bad, (.v .str (y0)), (.v .bool (!ByteArray.toList y0 == (ByteArray.mk #[]).toList)), (.v .bool (!true)), (.raw undef), (.raw undef), (.raw undef), (.raw undef), (.v .bool (false)), .bad, (.tup [(.v .str (y3.fst)), (.v .bool (y3.snd.fst))]), (.v .str (y0)), (.v (.int .i64) (y1)), (.v .str (y2)), (.tup [(.v .str (y3.fst)), (.v .bool (y3.snd.fst))]), (.v .str (y3.fst)), (.v .bool (y3.snd.fst)), (.v .bool (y3.snd.fst)), (.v .bool (!y3.snd.fst)), (.v .bool (false)), (.v (.int .i64) (y1)), (.v .str (y4)), (.v .bool (ByteArray.toList y4 == (ByteArray.mk #[]).toList)), (.v .bool (ByteArray.toList y4 == (ByteArray.mk #[]).toList)), (.v (.int .i64) (y1)), (.v .bool (y1 == (7 : Int))), (.tup [(.v .str (y5.fst)), (.v .str (y5.snd.fst)), (.v .bool (y5.snd.snd.fst))]), (.v .str (y3.fst)), (.tup [(.v .str (y5.fst)), (.v .str (y5.snd.fst)), (.v .bool (y5.snd.snd.fst))]), (.v .str (y5.fst)), (.v .str (y5.snd.fst)), (.v .bool (y5.snd.snd.fst)), (.v .bool (y5.snd.snd.fst)), .bad, .bad, .bad, .bad, .bad, (.tup [(.v (.int .i64) (y6.fst)), (.v .bool (y6.snd.fst))]), (.v .str (y5.snd.fst)), (.tup [(.v (.int .i64) (y6.fst)), (.v .bool (y6.snd.fst))]), (.v (.int .i64) (y6.fst)), (.v .bool (y6.snd.fst)), (.v .bool (y5.snd.snd.fst)), (.v .bool (!y5.snd.snd.fst)), (.v .bool (!false)), (.raw undef), (.raw undef), (.v .bool (true)), .bad, .bad, .bad], bx := [none, none, none, none, none, none, none, none, none, none, none, none, none, none, none, none, none, none, none, none, none, none, none, none, none, none, none, none, none, none, none, none, none, none, none, none, none, none, none, none, none, none, none, none, none, none, none, none, none, none, none, none, none, none], live := 0, g := [] }
def s9_27x60 (y0 : ByteArray) (y1 : Int) (y2 : ByteArray) (y3 : (ByteArray × Bool × Unit)) (y4 : ByteArray) (y5 : (Int × Bool × Unit)) : St := { t := [(.v .str (y0)), (.raw undef), .bad, .bad, .bad, (.v (.int .i64) (y1)), (.v .str (y3.fst)), (.v .bool (y5.snd.fst)), (.v (.int .i64) ((0 : Int))), (.v .bool (true)), .bad, (.v (.int .i64) (y5.fst)), (.v (.int .i64) (y1)), (.v .bool (decide (y1 ≤ (8 : Int)))), .bad, .bad, (.v .str (y0)), (.v .bool (!ByteArray.toList y0 == (ByteArray.mk #[]).toList)), (.v .bool (!true)), (.raw undef), (.raw undef), (.raw undef), (.raw undef), (.v .bool (false)), .bad, (.tup [(.v .str (y3.fst)), (.v .bool (y3.snd.fst))]), (.v .str (y0)), (.v (.int .i64) (y1)), (.v .str (y2)), (.tup [(.v .str (y3.fst)), (.v .bool (y3.snd.fst))]), (.v .str (y3.fst)), (.v .bool (y3.snd.fst)), (.v .bool (y3.snd.fst)), (.v .bool (!y3.snd.fst)), (.v .bool (false)), (.v (.int .i64) (y1)), (.v .str (y4)), (.v .bool (ByteArray.toList y4 == (ByteArray.mk #[]).toList)), (.v .bool (ByteArray.toList y4 == (ByteArray.mk #[]).toList)), (.v (.int .i64) (y1)), (.v .bool (y1 == (7 : Int))), .bad, .bad, .bad, .bad, .bad, .bad, .bad, .bad, .bad, .bad, .bad, .bad, (.tup [(.v (.int .i64) (y5.fst)), (.v .bool (y5.snd.fst))]), (.v .str (y3.fst)), (.tup [(.v (.int .i64) (y5.fst)), (.v .bool (y5.snd.fst))]), (.v (.int .i64) (y5.fst)), (.v .bool (y5.snd.fst)), (.v .bool (true)), (.v .bool (!true)), (.v .bool (false)), (.v .bool (y5.snd.fst)), (.v .bool (!y5.snd.fst)), (.v .bool (!y5.snd.fst)), .bad, .bad, .bad], bx := [none, none, none, none, none, none, none, none, none, none, none, none, none, none, none, none, none, none, none, none, none, none, none, none, none, none, none, none, none, none, none, none, none, none, none, none, none, none, none, none, none, none, none], live := 0, g := [] }
def s9_27x61 (y0 : ByteArray) (y1 : Int) (y2 : ByteArray) (y3 : (ByteArray × Bool × Unit)) (y4 : ByteArray) (y5 : (Int × Bool × Unit)) : St := { t := [(.v .str (y0)), (.raw undef), (.v (.int .i64) (y1)), (.v (.int .i64) ((0 : Int))), (.v (.int .i64) (y5.fst)), (.v (.int .i64) (y1)), (.v .str (y3.fst)), (.v .bool (y5.snd.fst)), (.v (.int .i64) ((0 : Int))), (.v .bool (true)), .bad, (.v (.int .i64) (y5.fst)), (.v (.int .i64) (y1)), (.v .bool (decide (y1 ≤ (8 : Int)))), .bad, .bad, (.v .str (y0)), (.v .bool (!ByteArray.toList y0 == (ByteArray.mk #[]).toList)), (.v .bool (!true)), (.raw undef), (.raw undef), (.raw undef), (.raw undef), (.v .bool (false)), .bad, (.tup [(.v .str (y3.fst)), (.v .bool (y3.snd.fst))]), (.v .str (y0)), (.v (.int .i64) (y1)), (.v .str (y2)), (.tup [(.v .str (y3.fst)), (.v .bool (y3.snd.fst))]), (.v .str (y3.fst)), (.v .bool (y3.snd.fst)), (.v .bool (y3.snd.fst)), (.v .bool (!y3.snd.fst)), (.v .bool (false)), (.v (.int .i64) (y1)), (.v .str (y4)), (.v .bool (ByteArray.toList y4 == (ByteArray.mk #[]).toList)), (.v .bool (ByteArray.toList y4 == (ByteArray.mk #[]).toList)), (.v (.int .i64) (y1)), (.v .bool (y1 == (7 : Int))), .bad, .bad, .bad, .bad, .bad, .bad, .bad, .bad, .bad, .bad, .bad, .bad, (.tup [(.v (.int .i64) (y5.fst)), (.v .bool (y5.snd.fst))]), (.v .str (y3.fst)), (.tup [(.v (.int .i64) (y5.fst)), (.v .bool (y5.snd.fst))]), (.v (.int .i64) (y5.fst)), (.v .bool (y5.snd.fst)), (.v .bool (true)), (.v .bool (!true)), (.v .bool (false)), (.v .bool (y5.snd.fst)), (.v .bool (!y5.snd.fst)), (.v .bool (!y5.snd.fst)), (.v (.int .i64) (y1)), (.v (.int .i64) ((0 : Int))), (.v (.int .i64) (y5.fst))], bx := [none, none, none, none, none, none, none, none, none, none, none, none, none, none, none, none, none, none, none, none, none, none, none, none, none, none, none, none, none, none, none, none, none, none, none, none, none, none, none, none, none, none, none, none, none, none, none, none, none], live := 0, g := [] }
def s9_27x62 (y0 : ByteArray) (y1 : Int) : St := { t := [(.v .str (y0)), (.raw undef), .bad, .bad, .bad, (.v (.int .i64) (y1)), .bad, .bad, .bad, .bad, .bad, .bad, (.v (.int .i64) (y1)), (.v .bool (decide (y1 ≤ (8 : Int)))), .bad, .bad, .bad, .bad, .bad, .bad, .bad, .bad, .bad, .bad, .bad, .bad, .bad, .bad, .bad, .bad, .bad, .bad, .bad, .bad, .bad, .bad, .bad, .bad, .bad, .bad, .bad, .bad, .bad, .bad, .bad, .bad, .bad, .bad, .bad, .bad, .bad, .bad, .bad, .bad, .bad, .bad, .bad, .bad, .bad, .bad, .bad, .bad, .bad, .bad, .bad, .bad, .bad], bx := [none, none], live := 0, g := [] }
theorem s9_27_l {R : Type} (K : AEx → St → Option R) (a0 : ByteArray) (x9 : Int) : LP B call inl 9 (m + 1) [1, 1, 0, 1] (s9_27 a0 x9) K = (bif decide (x9 ≤ (8 : Int)) then (bif (!ByteArray.toList a0 == (ByteArray.mk #[]).toList) == true then ((call 22 [(.v (.int .i64) (x9))]).bind fun (v28 : ByteArray) => bif ByteArray.toList a0 == ByteArray.toList v28 then (K .ret (s9_27x29 a0 x9 v28)) else ((call 24 [(.v (.int .i64) (x9))]).bind fun (v30 : ByteArray) => (call 23 [(.v .str (a0)), (.v .str (v30))]).bind fun (v31 : (ByteArray × Bool × Unit)) => bif (!v31.snd.fst) == false then ((call 24 [(.v (.int .i64) (x9))]).bind fun (v32 : ByteArray) => bif ByteArray.toList v32 == (ByteArray.mk #[]).toList then (LP B call inl 9 m [1, 1, 0, 1] (s9_27 a0 (IntKind.i64.wrap (x9 + (1 : Int)))) K) else (bif x9 == (7 : Int) then ((call 25 [(.v .str (v31.fst)), (.v .str ((ByteArray.mk #[(45 : UInt8)])))]).bind fun (v33 : (ByteArray × ByteArray × Bool × Unit)) => bif v33.snd.snd.fst then ((call 26 [(.v .str (v33.fst))]).bind fun (v34 : (Int × Bool × Unit)) => (call 26 [(.v .str (v33.snd.fst))]).bind fun (v35 : (Int × Bool × Unit)) => bif (!v34.snd.fst) == false then (bif !v35.snd.fst then (K (.exit 0) (s9_27x36 a0 x9 v28 v30 v31 v32 v33 v34 v35)) else (K .ret (s9_27x37 a0 x9 v28 v30 v31 v32 v33 v34 v35))) else (K (.exit 0) (s9_27x38 a0 x9 v28 v30 v31 v32 v33 v34 v35))) else ((call 26 [(.v .str (v33.snd.fst))]).bind fun (v39 : (Int × Bool × Unit)) => bif (!v33.snd.snd.fst) == false then (bif !v39.snd.fst then (K (.exit 0) (s9_27x40 a0 x9 v28 v30 v31 v32 v33 v39)) else (K .ret (s9_27x41 a0 x9 v28 v30 v31 v32 v33 v39))) else (K (.exit 0) (s9_27x42 a0 x9 v28 v30 v31 v32 v33 v39)))) else ((call 26 [(.v .str (v31.fst))]).bind fun (v43 : (Int × Bool × Unit)) => bif !v43.snd.fst then (K (.exit 0) (s9_27x44 a0 x9 v28 v30 v31 v32 v43)) else (K .ret (s9_27x45 a0 x9 v28 v30 v31 v32 v43))))) else (LP B call inl 9 m [1, 1, 0, 1] (s9_27 a0 (IntKind.i64.wrap (x9 + (1 : Int)))) K))) else ((call 24 [(.v (.int .i64) (x9))]).bind fun (v46 : ByteArray) => (call 23 [(.v .str (a0)), (.v .str (v46))]).bind fun (v47 : (ByteArray × Bool × Unit)) => bif (!v47.snd.fst) == false then ((call 24 [(.v (.int .i64) (x9))]).bind fun (v48 : ByteArray) => bif ByteArray.toList v48 == (ByteArray.mk #[]).toList then (LP B call inl 9 m [1, 1, 0, 1] (s9_27 a0 (IntKind.i64.wrap (x9 + (1 : Int)))) K) else (bif x9 == (7 : Int) then ((call 25 [(.v .str (v47.fst)), (.v .str ((ByteArray.mk #[(45 : UInt8)])))]).bind fun (v49 : (ByteArray × ByteArray × Bool × Unit)) => bif v49.snd.snd.fst then ((call 26 [(.v .str (v49.fst))]).bind fun (v50 : (Int × Bool × Unit)) => (call 26 [(.v .str (v49.snd.fst))]).bind fun (v51 : (Int × Bool × Unit)) => bif (!v50.snd.fst) == false then (bif !v51.snd.fst then (K (.exit 0) (s9_27x52 a0 x9 v46 v47 v48 v49 v50 v51)) else (K .ret (s9_27x53 a0 x9 v46 v47 v48 v49 v50 v51))) else (K (.exit 0) (s9_27x54 a0 x9 v46 v47 v48 v49 v50 v51))) else ((call 26 [(.v .str (v49.snd.fst))]).bind fun (v55 : (Int × Bool × Unit)) => bif (!v49.snd.snd.fst) == false then (bif !v55.snd.fst then (K (.exit 0) (s9_27x56 a0 x9 v46 v47 v48 v49 v55)) else (K .ret (s9_27x57 a0 x9 v46 v47 v48 v49 v55))) else (K (.exit 0) (s9_27x58 a0 x9 v46 v47 v48 v49 v55)))) else ((call 26 [(.v .str (v47.fst))]).bind fun (v59 : (Int × Bool × Unit)) => bif !v59.snd.fst then (K (.exit 0) (s9_27x60 a0 x9 v46 v47 v48 v59)) else (K .ret (s9_27x61 a0 x9 v46 v47 v48 v59))))) else (LP B call inl 9 m [1, 1, 0, 1] (s9_27 a0 (IntKind.i64.wrap (x9 + (1 : Int)))) K))) else (K (.exit 0) (s9_27x62 a0 x9))) := by kernel_rfl
theorem s9_27x29_k (a0 : ByteArray) (x9 : Int) (v63 : ByteArray) : (KA B call inl 9 m [1, 1, 0, 1] (FI B call inl 9)) .ret (s9_27x29 a0 x9 v63) = (some ((x9, (0 : Int), (0 : Int), ()))) := by kernel_rfl
theorem s9_27x36_k (a0 : ByteArray) (x9 : Int) (v63 : ByteArray) (v64 : ByteArray) (v65 : (ByteArray × Bool × Unit)) (v66 : ByteArray) (v67 : (ByteArray × ByteArray × Bool × Unit)) (v68 : (Int × Bool × Unit)) (v69 : (Int × Bool × Unit)) : (KA B call inl 9 m [1, 1, 0, 1] (FI B call inl 9)) (.exit 0) (s9_27x36 a0 x9 v63 v64 v65 v66 v67 v68 v69) = (some (((0 : Int), (0 : Int), (0 : Int), ()))) := by kernel_rfl
theorem s9_27x37_k (a0 : ByteArray) (x9 : Int) (v63 : ByteArray) (v64 : ByteArray) (v65 : (ByteArray × Bool × Unit)) (v66 : ByteArray) (v67 : (ByteArray × ByteArray × Bool × Unit)) (v68 : (Int × Bool × Unit)) (v69 : (Int × Bool × Unit)) : (KA B call inl 9 m [1, 1, 0, 1] (FI B call inl 9)) .ret (s9_27x37 a0 x9 v63 v64 v65 v66 v67 v68 v69) = (some ((x9, v68.fst, v69.fst, ()))) := by kernel_rfl
theorem s9_27x38_k (a0 : ByteArray) (x9 : Int) (v63 : ByteArray) (v64 : ByteArray) (v65 : (ByteArray × Bool × Unit)) (v66 : ByteArray) (v67 : (ByteArray × ByteArray × Bool × Unit)) (v68 : (Int × Bool × Unit)) (v69 : (Int × Bool × Unit)) : (KA B call inl 9 m [1, 1, 0, 1] (FI B call inl 9)) (.exit 0) (s9_27x38 a0 x9 v63 v64 v65 v66 v67 v68 v69) = (some (((0 : Int), (0 : Int), (0 : Int), ()))) := by kernel_rfl
theorem s9_27x40_k (a0 : ByteArray) (x9 : Int) (v63 : ByteArray) (v64 : ByteArray) (v65 : (ByteArray × Bool × Unit)) (v66 : ByteArray) (v67 : (ByteArray × ByteArray × Bool × Unit)) (v70 : (Int × Bool × Unit)) : (KA B call inl 9 m [1, 1, 0, 1] (FI B call inl 9)) (.exit 0) (s9_27x40 a0 x9 v63 v64 v65 v66 v67 v70) = (some (((0 : Int), (0 : Int), (0 : Int), ()))) := by kernel_rfl
theorem s9_27x41_k (a0 : ByteArray) (x9 : Int) (v63 : ByteArray) (v64 : ByteArray) (v65 : (ByteArray × Bool × Unit)) (v66 : ByteArray) (v67 : (ByteArray × ByteArray × Bool × Unit)) (v70 : (Int × Bool × Unit)) : (KA B call inl 9 m [1, 1, 0, 1] (FI B call inl 9)) .ret (s9_27x41 a0 x9 v63 v64 v65 v66 v67 v70) = (some ((x9, (0 : Int), v70.fst, ()))) := by kernel_rfl
theorem s9_27x42_k (a0 : ByteArray) (x9 : Int) (v63 : ByteArray) (v64 : ByteArray) (v65 : (ByteArray × Bool × Unit)) (v66 : ByteArray) (v67 : (ByteArray × ByteArray × Bool × Unit)) (v70 : (Int × Bool × Unit)) : (KA B call inl 9 m [1, 1, 0, 1] (FI B call inl 9)) (.exit 0) (s9_27x42 a0 x9 v63 v64 v65 v66 v67 v70) = (some (((0 : Int), (0 : Int), (0 : Int), ()))) := by kernel_rfl
theorem s9_27x44_k (a0 : ByteArray) (x9 : Int) (v63 : ByteArray) (v64 : ByteArray) (v65 : (ByteArray × Bool × Unit)) (v66 : ByteArray) (v71 : (Int × Bool × Unit)) : (KA B call inl 9 m [1, 1, 0, 1] (FI B call inl 9)) (.exit 0) (s9_27x44 a0 x9 v63 v64 v65 v66 v71) = (some (((0 : Int), (0 : Int), (0 : Int), ()))) := by kernel_rfl
theorem s9_27x45_k (a0 : ByteArray) (x9 : Int) (v63 : ByteArray) (v64 : ByteArray) (v65 : (ByteArray × Bool × Unit)) (v66 : ByteArray) (v71 : (Int × Bool × Unit)) : (KA B call inl 9 m [1, 1, 0, 1] (FI B call inl 9)) .ret (s9_27x45 a0 x9 v63 v64 v65 v66 v71) = (some ((x9, (0 : Int), v71.fst, ()))) := by kernel_rfl
theorem s9_27x52_k (a0 : ByteArray) (x9 : Int) (v72 : ByteArray) (v73 : (ByteArray × Bool × Unit)) (v74 : ByteArray) (v75 : (ByteArray × ByteArray × Bool × Unit)) (v76 : (Int × Bool × Unit)) (v77 : (Int × Bool × Unit)) : (KA B call inl 9 m [1, 1, 0, 1] (FI B call inl 9)) (.exit 0) (s9_27x52 a0 x9 v72 v73 v74 v75 v76 v77) = (some (((0 : Int), (0 : Int), (0 : Int), ()))) := by kernel_rfl
theorem s9_27x53_k (a0 : ByteArray) (x9 : Int) (v72 : ByteArray) (v73 : (ByteArray × Bool × Unit)) (v74 : ByteArray) (v75 : (ByteArray × ByteArray × Bool × Unit)) (v76 : (Int × Bool × Unit)) (v77 : (Int × Bool × Unit)) : (KA B call inl 9 m [1, 1, 0, 1] (FI B call inl 9)) .ret (s9_27x53 a0 x9 v72 v73 v74 v75 v76 v77) = (some ((x9, v76.fst, v77.fst, ()))) := by kernel_rfl
theorem s9_27x54_k (a0 : ByteArray) (x9 : Int) (v72 : ByteArray) (v73 : (ByteArray × Bool × Unit)) (v74 : ByteArray) (v75 : (ByteArray × ByteArray × Bool × Unit)) (v76 : (Int × Bool × Unit)) (v77 : (Int × Bool × Unit)) : (KA B call inl 9 m [1, 1, 0, 1] (FI B call inl 9)) (.exit 0) (s9_27x54 a0 x9 v72 v73 v74 v75 v76 v77) = (some (((0 : Int), (0 : Int), (0 : Int), ()))) := by kernel_rfl
theorem s9_27x56_k (a0 : ByteArray) (x9 : Int) (v72 : ByteArray) (v73 : (ByteArray × Bool × Unit)) (v74 : ByteArray) (v75 : (ByteArray × ByteArray × Bool × Unit)) (v78 : (Int × Bool × Unit)) : (KA B call inl 9 m [1, 1, 0, 1] (FI B call inl 9)) (.exit 0) (s9_27x56 a0 x9 v72 v73 v74 v75 v78) = (some (((0 : Int), (0 : Int), (0 : Int), ()))) := by kernel_rfl
theorem s9_27x57_k (a0 : ByteArray) (x9 : Int) (v72 : ByteArray) (v73 : (ByteArray × Bool × Unit)) (v74 : ByteArray) (v75 : (ByteArray × ByteArray × Bool × Unit)) (v78 : (Int × Bool × Unit)) : (KA B call inl 9 m [1, 1, 0, 1] (FI B call inl 9)) .ret (s9_27x57 a0 x9 v72 v73 v74 v75 v78) = (some ((x9, (0 : Int), v78.fst, ()))) := by kernel_rfl
theorem s9_27x58_k (a0 : ByteArray) (x9 : Int) (v72 : ByteArray) (v73 : (ByteArray × Bool × Unit)) (v74 : ByteArray) (v75 : (ByteArray × ByteArray × Bool × Unit)) (v78 : (Int × Bool × Unit)) : (KA B call inl 9 m [1, 1, 0, 1] (FI B call inl 9)) (.exit 0) (s9_27x58 a0 x9 v72 v73 v74 v75 v78) = (some (((0 : Int), (0 : Int), (0 : Int), ()))) := by kernel_rfl
theorem s9_27x60_k (a0 : ByteArray) (x9 : Int) (v72 : ByteArray) (v73 : (ByteArray × Bool × Unit)) (v74 : ByteArray) (v79 : (Int × Bool × Unit)) : (KA B call inl 9 m [1, 1, 0, 1] (FI B call inl 9)) (.exit 0) (s9_27x60 a0 x9 v72 v73 v74 v79) = (some (((0 : Int), (0 : Int), (0 : Int), ()))) := by kernel_rfl
theorem s9_27x61_k (a0 : ByteArray) (x9 : Int) (v72 : ByteArray) (v73 : (ByteArray × Bool × Unit)) (v74 : ByteArray) (v79 : (Int × Bool × Unit)) : (KA B call inl 9 m [1, 1, 0, 1] (FI B call inl 9)) .ret (s9_27x61 a0 x9 v72 v73 v74 v79) = (some ((x9, (0 : Int), v79.fst, ()))) := by kernel_rfl
theorem s9_27x62_k (a0 : ByteArray) (x9 : Int) : (KA B call inl 9 m [1, 1, 0, 1] (FI B call inl 9)) (.exit 0) (s9_27x62 a0 x9) = (some (((0 : Int), (0 : Int), (0 : Int), ()))) := by kernel_rfl
theorem t9 (a0 : ByteArray) : stepN B call inl m 9 [argAV .str a0] = (LP B call inl 9 m [1, 1, 0, 1] (s9_27 a0 ((1 : Int))) (KA B call inl 9 m [1, 1, 0, 1] (FI B call inl 9)) : Option (Int × Int × Int × Unit)) := by kernel_rfl
/-! function 10 -/
def s10_16 (a0 : ByteArray) (x4 : Int) : St := { t := [(.v .str (a0)), (.raw undef), .bad, .bad, .bad, (.v (.int .i64) (x4)), .bad, .bad, .bad, .bad, .bad, .bad, .bad, .bad, .bad, .bad, .bad, .bad, .bad, .bad, .bad, .bad, .bad, .bad, .bad, .bad, .bad, .bad, .bad, .bad, .bad, .bad, .bad, .bad, .bad, .bad, .bad, .bad, .bad, .bad, .bad, .bad, .bad, .bad, .bad, .bad, .bad, .bad, .bad, .bad, .bad, .bad, .bad, .bad, .bad, .bad, .bad, .bad, .bad, .bad, .bad, .bad, .bad, .bad, .bad, .bad, .bad, .bad], bx := [], live := 0, g := [] }
def s10_19 (a0 : ByteArray) (x4 : Int) (v17 : ByteArray) (x18 : Int) : St := { t := [(.v .str (a0)), (.raw undef), .bad, .bad, .bad, (.v (.int .i64) (x4)), (.v .str (v17)), (.v (.int .i64) ((0 : Int))), (.v (.int .i64) ((0 : Int))), (.v (.int .i64) (x18)), (.v (.int .i64) (x4)), (.v .bool (decide (x4 ≤ (8 : Int)))), .bad, .bad, (.v (.int .i64) (x4)), (.v .str (v17)), (.v (.int .i64) (x4)), (.v .bool (x4 == (7 : Int))), .bad, .bad, .bad, .bad, .bad, .bad, .bad, .bad, .bad, .bad, .bad, .bad, .bad, .bad, .bad, .bad, .bad, .bad, .bad, .bad, .bad, .bad, .bad, .bad, .bad, .bad, .bad, .bad, .bad, .bad, .bad, .bad, .bad, .bad, .bad, .bad, .bad, .bad, .bad, .bad, .bad, .bad, .bad, .bad, .bad, .bad, .bad, .bad, .bad, .bad], bx := [], live := 0, g := [] }
def s10_19x20 (y0 : ByteArray) (y1 : Int) (y2 : ByteArray) (y3 : Int) : St := { t := [(.v .str (y0)), (.raw undef), .bad, .bad, .bad, (.v (.int .i64) (y1)), (.v .str (y2)), (.v (.int .i64) ((0 : Int))), (.v (.int .i64) ((0 : Int))), (.v (.int .i64) (y3)), (.v (.int .i64) (y1)), (.v .bool (decide (y1 ≤ (8 : Int)))), .bad, .bad, (.v (.int .i64) (y1)), (.v .str (y2)), (.v (.int .i64) (y1)), (.v .bool (y1 == (7 : Int))), (.v (.int .i64) (y3)), (.v .str (y0)), (.v (.int .i64) ((↑(ByteArray.size y0) : Int))), (.v .bool (decide (y3 < (↑(ByteArray.size y0) : Int)))), (.v .bool (true)), (.v .str (y0)), (.v (.int .i64) (y3)), (.v (.int .u8) (byteAt y0 y3)), (.v .bool (byteAt y0 y3 != (45 : Int))), (.v .bool (byteAt y0 y3 != (45 : Int))), .bad, .bad, .bad, .bad, .bad, .bad, .bad, .bad, .bad, .bad, .bad, .bad, .bad, .bad, .bad, .bad, .bad, .bad, .bad, .bad, .bad, .bad, .bad, .bad, .bad, .bad, .bad, .bad, .bad, .bad, .bad, .bad, .bad, .bad, .bad, .bad, .bad, .bad, .bad, .bad], bx := [none, none, none, none, none, none, none, none, none, none], live := 0, g := [] }
def s10_19x21 (y0 : ByteArray) (y1 : Int) (y2 : ByteArray) (y3 : Int) : St := { t := [(.v .str (y0)), (.raw undef), .bad, .bad, .bad, (.v (.int .i64) (y1)), (.v .str (y2)), (.v (.int .i64) ((0 : Int))), (.v (.int .i64) ((0 : Int))), (.v (.int .i64) (y3)), (.v (.int .i64) (y1)), (.v .bool (decide (y1 ≤ (8 : Int)))), .bad, .bad, (.v (.int .i64) (y1)), (.v .str (y2)), (.v (.int .i64) (y1)), (.v .bool (y1 == (7 : Int))), (.v (.int .i64) (y3)), (.v .str (y0)), (.v (.int .i64) ((↑(ByteArray.size y0) : Int))), (.v .bool (decide (y3 < (↑(ByteArray.size y0) : Int)))), (.v .bool (!true)), (.raw undef), (.raw undef), (.raw undef), (.raw undef), (.v .bool (false)), .bad, .bad, .bad, .bad, .bad, .bad, .bad, .bad, .bad, .bad, .bad, .bad, .bad, .bad, .bad, .bad, .bad, .bad, .bad, .bad, .bad, .bad, .bad, .bad, .bad, .bad, .bad, .bad, .bad, .bad, .bad, .bad, .bad, .bad, .bad, .bad, .bad, .bad, .bad, .bad], bx := [none, none, none, none, none, none, none, none, none, none], live := 0, g := [] }
theorem s10_19_l {R : Type} (K : AEx → St → Option R) (a0 : ByteArray) (x4 : Int) (v17 : ByteArray) (x18 : Int) : LP B call inl 10 (m + 1) [1, 0, 1, 0, 1, 0, 1, 1, 0, 1, 0, 1, 0] (s10_19 a0 x4 v17 x18) K = (bif decide (x18 < (↑(ByteArray.size a0) : Int)) == true then (if (0 : Int) ≤ x18 ∧ x18 < (↑(ByteArray.size a0) : Int) then (bif byteAt a0 x18 != (45 : Int) then (LP B call inl 10 m [1, 0, 1, 0, 1, 0, 1, 1, 0, 1, 0, 1, 0] (s10_19 a0 x4 v17 (IntKind.i64.wrap (x18 + (1 : Int)))) K) else (K (.exit 2) (s10_19x20 a0 x4 v17 x18))) else (none)) else (K (.exit 2) (s10_19x21 a0 x4 v17 x18))) := by kernel_rfl
def s10_16x25 (y0 : ByteArray) (y1 : Int) (y2 : ByteArray) (y3 : Int) (y4 : Int) (y5 : Int) (y6 : ByteArray) : St := { t := [(.v .str (y0)), (.raw undef), (.v (.int .i64) (y1)), (.v (.int .i64) (y4)), (.v (.int .i64) (y5)), (.v (.int .i64) (y1)), (.v .str (y2)), (.v (.int .i64) (y4)), (.v (.int .i64) (y5)), (.v (.int .i64) (y3)), (.v (.int .i64) (y1)), (.v .bool (decide (y1 ≤ (8 : Int)))), .bad, .bad, (.v (.int .i64) (y1)), (.v .str (y2)), (.v (.int .i64) (y1)), (.v .bool (y1 == (7 : Int))), (.v (.int .i64) (y3)), (.v .str (y0)), (.v (.int .i64) ((↑(ByteArray.size y0) : Int))), (.v .bool (decide (y3 < (↑(ByteArray.size y0) : Int)))), (.v .bool (true)), (.v .str (y0)), (.v (.int .i64) (y3)), (.v (.int .u8) (byteAt y0 y3)), (.v .bool (byteAt y0 y3 != (45 : Int))), (.v .bool (byteAt y0 y3 != (45 : Int))), .bad, .bad, (.v .str (y0)), (.v (.int .i64) (y3)), (.v (.int .i64) (y4)), (.v .str (y0)), (.v (.int .i64) (y3)), (.v (.int .i64) (IntKind.i64.wrap (y3 + (1 : Int)))), (.v .str (y0)), (.v (.int .i64) ((↑(ByteArray.size y0) : Int))), (.v (.int .i64) (y5)), .bad, .bad, .bad, .bad, .bad, .bad, .bad, .bad, (.v .str (y0)), (.v .bool (!ByteArray.toList y0 == (ByteArray.mk #[]).toList)), (.v .bool (true)), (.v (.int .i64) (y4)), (.v .bool (decide (y4 ≥ (0 : Int)))), (.v .bool (decide (y4 ≥ (0 : Int)))), (.v .bool (true)), (.v (.int .i64) (y5)), (.v .bool (decide (y5 ≥ (0 : Int)))), (.v .bool (decide (y5 ≥ (0 : Int)))), (.v .bool (true)), (.v (.int .i64) (y1)), (.v (.int .i64) (y4)), (.v (.int .i64) (y5)), (.v .str (y6)), (.v .str (y0)), (.v .bool (ByteArray.toList y6 == ByteArray.toList y0)), (.v .bool (ByteArray.toList y6 == ByteArray.toList y0)), (.v (.int .i64) (y1)), (.v (.int .i64) (y4)), (.v (.int .i64) (y5))], bx := [none, none, none, none, none, none, none, none, none, none, none, none, none, none, none, none, none, none, none, none, none, none, none, none, none, none, none, none, none, none, none, none, none, none, none, none, none, none, none, none, none, none, none, none, none], live := 0, g := [] }
theorem s10_19x20_k {R : Type} (K : AEx → St → Option R) (a0 : ByteArray) (x4 : Int) (v17 : ByteArray) (x18 : Int) : (KN B call inl 10 m [1, 0, 1] [1, 0, 1, 1, 0, 1, 0, 1, 0] K) (.exit 2) (s10_19x20 a0 x4 v17 x18) = ((call 28 [(.v .str (a0)), (.v (.int .i64) ((4 : Int))), (.v (.int .i64) (x18))]).bind fun (v22 : Int) => (call 28 [(.v .str (a0)), (.v (.int .i64) (IntKind.i64.wrap (x18 + (1 : Int)))), (.v (.int .i64) ((↑(ByteArray.size a0) : Int)))]).bind fun (v23 : Int) => bif (!ByteArray.toList a0 == (ByteArray.mk #[]).toList) == true then (bif decide (v22 ≥ (0 : Int)) == true then (bif decide (v23 ≥ (0 : Int)) == true then ((call 12 [(.v (.int .i64) (x4)), (.v (.int .i64) (v22)), (.v (.int .i64) (v23))]).bind fun (v24 : ByteArray) => bif ByteArray.toList v24 == ByteArray.toList a0 then (K .ret (s10_16x25 a0 x4 v17 x18 v22 v23 v24)) else (LP B call inl 10 m [1, 0, 1] (s10_16 a0 (IntKind.i64.wrap (x4 + (1 : Int)))) K)) else (LP B call inl 10 m [1, 0, 1] (s10_16 a0 (IntKind.i64.wrap (x4 + (1 : Int)))) K)) else (LP B call inl 10 m [1, 0, 1] (s10_16 a0 (IntKind.i64.wrap (x4 + (1 : Int)))) K)) else (LP B call inl 10 m [1, 0, 1] (s10_16 a0 (IntKind.i64.wrap (x4 + (1 : Int)))) K)) := by kernel_rfl
def s10_16x29 (y0 : ByteArray) (y1 : Int) (y2 : ByteArray) (y3 : Int) (y4 : Int) (y5 : Int) (y6 : ByteArray) : St := { t := [(.v .str (y0)), (.raw undef), (.v (.int .i64) (y1)), (.v (.int .i64) (y4)), (.v (.int .i64) (y5)), (.v (.int .i64) (y1)), (.v .str (y2)), (.v (.int .i64) (y4)), (.v (.int .i64) (y5)), (.v (.int .i64) (y3)), (.v (.int .i64) (y1)), (.v .bool (decide (y1 ≤ (8 : Int)))), .bad, .bad, (.v (.int .i64) (y1)), (.v .str (y2)), (.v (.int .i64) (y1)), (.v .bool (y1 == (7 : Int))), (.v (.int .i64) (y3)), (.v .str (y0)), (.v (.int .i64) ((↑(ByteArray.size y0) : Int))), (.v .bool (decide (y3 < (↑(ByteArray.size y0) : Int)))), (.v .bool (!true)), (.raw undef), (.raw undef), (.raw undef), (.raw undef), (.v .bool (false)), .bad, .bad, (.v .str (y0)), (.v (.int .i64) (y3)), (.v (.int .i64) (y4)), (.v .str (y0)), (.v (.int .i64) (y3)), (.v (.int .i64) (IntKind.i64.wrap (y3 + (1 : Int)))), (.v .str (y0)), (.v (.int .i64) ((↑(ByteArray.size y0) : Int))), (.v (.int .i64) (y5)), .bad, .bad, .bad, .bad, .bad, .bad, .bad, .bad, (.v .str (y0)), (.v .bool (!ByteArray.toList y0 == (ByteArray.mk #[]).toList)), (.v .bool (true)), (.v (.int .i64) (y4)), (.v .bool (decide (y4 ≥ (0 : Int)))), (.v .bool (decide (y4 ≥ (0 : Int)))), (.v .bool (true)), (.v (.int .i64) (y5)), (.v .bool (decide (y5 ≥ (0 : Int)))), (.v .bool (decide (y5 ≥ (0 : Int)))), (.v .bool (true)), (.v (.int .i64) (y1)), (.v (.int .i64) (y4)), (.v (.int .i64) (y5)), (.v .str (y6)), (.v .str (y0)), (.v .bool (ByteArray.toList y6 == ByteArray.toList y0)), (.v .bool (ByteArray.toList y6 == ByteArray.toList y0)), (.v (.int .i64) (y1)), (.v (.int .i64) (y4)), (.v (.int .i64) (y5))], bx := [none, none, none, none, none, none, none, none, none, none, none, none, none, none, none, none, none, none, none, none, none, none, none, none, none, none, none, none, none, none, none, none, none, none, none, none, none, none, none, none, none, none, none, none, none], live := 0, g := [] }
theorem s10_19x21_k {R : Type} (K : AEx → St → Option R) (a0 : ByteArray) (x4 : Int) (v17 : ByteArray) (x18 : Int) : (KN B call inl 10 m [1, 0, 1] [1, 0, 1, 1, 0, 1, 0, 1, 0] K) (.exit 2) (s10_19x21 a0 x4 v17 x18) = ((call 28 [(.v .str (a0)), (.v (.int .i64) ((4 : Int))), (.v (.int .i64) (x18))]).bind fun (v26 : Int) => (call 28 [(.v .str (a0)), (.v (.int .i64) (IntKind.i64.wrap (x18 + (1 : Int)))), (.v (.int .i64) ((↑(ByteArray.size a0) : Int)))]).bind fun (v27 : Int) => bif (!ByteArray.toList a0 == (ByteArray.mk #[]).toList) == true then (bif decide (v26 ≥ (0 : Int)) == true then (bif decide (v27 ≥ (0 : Int)) == true then ((call 12 [(.v (.int .i64) (x4)), (.v (.int .i64) (v26)), (.v (.int .i64) (v27))]).bind fun (v28 : ByteArray) => bif ByteArray.toList v28 == ByteArray.toList a0 then (K .ret (s10_16x29 a0 x4 v17 x18 v26 v27 v28)) else (LP B call inl 10 m [1, 0, 1] (s10_16 a0 (IntKind.i64.wrap (x4 + (1 : Int)))) K)) else (LP B call inl 10 m [1, 0, 1] (s10_16 a0 (IntKind.i64.wrap (x4 + (1 : Int)))) K)) else (LP B call inl 10 m [1, 0, 1] (s10_16 a0 (IntKind.i64.wrap (x4 + (1 : Int)))) K)) else (LP B call inl 10 m [1, 0, 1] (s10_16 a0 (IntKind.i64.wrap (x4 + (1 : Int)))) K)) := by kernel_rfl
def s10_16x32 (y0 : ByteArray) (y1 : Int) (y2 : ByteArray) (y3 : Int) (y4 : ByteArray) : St := { t := [(.v .str (y0)), (.raw undef), (.v (.int .i64) (y1)), (.v (.int .i64) ((0 : Int))), (.v (.int .i64) (y3)), (.v (.int .i64) (y1)), (.v .str (y2)), (.v (.int .i64) ((0 : Int))), (.v (.int .i64) (y3)), .bad, (.v (.int .i64) (y1)), (.v .bool (decide (y1 ≤ (8 : Int)))), .bad, .bad, (.v (.int .i64) (y1)), (.v .str (y2)), (.v (.int .i64) (y1)), (.v .bool (y1 == (7 : Int))), .bad, .bad, .bad, .bad, .bad, .bad, .bad, .bad, .bad, .bad, .bad, .bad, .bad, .bad, .bad, .bad, .bad, .bad, .bad, .bad, .bad, (.v .str (y2)), (.v .bool (!ByteArray.toList y2 == (ByteArray.mk #[]).toList)), (.v .str (y0)), (.v .str (y2)), (.v (.int .i64) ((↑(ByteArray.size y2) : Int))), (.v .str (y0)), (.v (.int .i64) ((↑(ByteArray.size y0) : Int))), (.v (.int .i64) (y3)), (.v .str (y0)), (.v .bool (!ByteArray.toList y0 == (ByteArray.mk #[]).toList)), (.v .bool (true)), (.v (.int .i64) ((0 : Int))), (.v .bool (decide ((0 : Int) ≥ (0 : Int)))), (.v .bool (decide ((0 : Int) ≥ (0 : Int)))), (.v .bool (true)), (.v (.int .i64) (y3)), (.v .bool (decide (y3 ≥ (0 : Int)))), (.v .bool (decide (y3 ≥ (0 : Int)))), (.v .bool (true)), (.v (.int .i64) (y1)), (.v (.int .i64) ((0 : Int))), (.v (.int .i64) (y3)), (.v .str (y4)), (.v .str (y0)), (.v .bool (ByteArray.toList y4 == ByteArray.toList y0)), (.v .bool (ByteArray.toList y4 == ByteArray.toList y0)), (.v (.int .i64) (y1)), (.v (.int .i64) ((0 : Int))), (.v (.int .i64) (y3))], bx := [none, none, none, none, none, none, none, none, none, none, none, none, none, none, none, none, none, none, none, none, none, none, none, none, none, none, none, none, none, none, none, none, none, none, none, none, none, none, none, none, none, none], live := 0, g := [] }
def s10_16x34 (y0 : ByteArray) (y1 : Int) (y2 : ByteArray) (y3 : ByteArray) : St := { t := [(.v .str (y0)), (.raw undef), (.v (.int .i64) (y1)), (.v (.int .i64) ((0 : Int))), (.v (.int .i64) ((0 : Int))), (.v (.int .i64) (y1)), (.v .str (y2)), (.v (.int .i64) ((0 : Int))), (.v (.int .i64) ((0 : Int))), .bad, (.v (.int .i64) (y1)), (.v .bool (decide (y1 ≤ (8 : Int)))), .bad, .bad, (.v (.int .i64) (y1)), (.v .str (y2)), (.v (.int .i64) (y1)), (.v .bool (y1 == (7 : Int))), .bad, .bad, .bad, .bad, .bad, .bad, .bad, .bad, .bad, .bad, .bad, .bad, .bad, .bad, .bad, .bad, .bad, .bad, .bad, .bad, .bad, (.v .str (y2)), (.v .bool (!ByteArray.toList y2 == (ByteArray.mk #[]).toList)), .bad, .bad, .bad, .bad, .bad, .bad, (.v .str (y0)), (.v .bool (!ByteArray.toList y0 == (ByteArray.mk #[]).toList)), (.v .bool (true)), (.v (.int .i64) ((0 : Int))), (.v .bool (decide ((0 : Int) ≥ (0 : Int)))), (.v .bool (decide ((0 : Int) ≥ (0 : Int)))), (.v .bool (true)), (.v (.int .i64) ((0 : Int))), (.v .bool (decide ((0 : Int) ≥ (0 : Int)))), (.v .bool (decide ((0 : Int) ≥ (0 : Int)))), (.v .bool (true)), (.v (.int .i64) (y1)), (.v (.int .i64) ((0 : Int))), (.v (.int .i64) ((0 : Int))), (.v .str (y3)), (.v .str (y0)), (.v .bool (ByteArray.toList y3 == ByteArray.toList y0)), (.v .bool (ByteArray.toList y3 == ByteArray.toList y0)), (.v (.int .i64) (y1)), (.v (.int .i64) ((0 : Int))), (.v (.int .i64) ((0 : Int)))], bx := [none, none, none, none, none, none, none, none, none, none, none, none, none, none, none, none, none, none, none, none, none, none, none, none, none, none, none, none, none, none, none, none, none, none, none], live := 0, g := [] }
def s10_16x35 (y0 : ByteArray) (y1 : Int) : St := { t := [(.v .str (y0)), (.raw undef), .bad, .bad, .bad, (.v (.int .i64) (y1)), .bad, .bad, .bad, .bad, (.v (.int .i64) (y1)), (.v .bool (decide (y1 ≤ (8 : Int)))), .bad, .bad, .bad, .bad, .bad, .bad, .bad, .bad, .bad, .bad, .bad, .bad, .bad, .bad, .bad, .bad, .bad, .bad, .bad, .bad, .bad, .bad, .bad, .bad, .bad, .bad, .bad, .bad, .bad, .bad, .bad, .bad, .bad, .bad, .bad, .bad, .bad, .bad, .bad, .bad, .bad, .bad, .bad, .bad, .bad, .bad, .bad, .bad, .bad, .bad, .bad, .bad, .bad, .bad, .bad, .bad], bx := [none, none], live := 0, g := [] }
theorem s10_16_l {R : Type} (K : AEx → St → Option R) (a0 : ByteArray) (x4 : Int) : LP B call inl 10 (m + 1) [1, 0, 1] (s10_16 a0 x4) K = (bif decide (x4 ≤ (8 : Int)) then ((call 27 [(.v (.int .i64) (x4))]).bind fun (v17 : ByteArray) => bif x4 == (7 : Int) then (LP B call inl 10 m [1, 0, 1, 0, 1, 0, 1, 1, 0, 1, 0, 1, 0] (s10_19 a0 x4 v17 ((4 : Int))) (KN B call inl 10 m [1, 0, 1] [1, 0, 1, 1, 0, 1, 0, 1, 0] K)) else (bif !ByteArray.toList v17 == (ByteArray.mk #[]).toList then ((call 28 [(.v .str (a0)), (.v (.int .i64) ((↑(ByteArray.size v17) : Int))), (.v (.int .i64) ((↑(ByteArray.size a0) : Int)))]).bind fun (v30 : Int) => bif (!ByteArray.toList a0 == (ByteArray.mk #[]).toList) == true then (bif decide (v30 ≥ (0 : Int)) == true then ((call 12 [(.v (.int .i64) (x4)), (.v (.int .i64) ((0 : Int))), (.v (.int .i64) (v30))]).bind fun (v31 : ByteArray) => bif ByteArray.toList v31 == ByteArray.toList a0 then (K .ret (s10_16x32 a0 x4 v17 v30 v31)) else (LP B call inl 10 m [1, 0, 1] (s10_16 a0 (IntKind.i64.wrap (x4 + (1 : Int)))) K)) else (LP B call inl 10 m [1, 0, 1] (s10_16 a0 (IntKind.i64.wrap (x4 + (1 : Int)))) K)) else (LP B call inl 10 m [1, 0, 1] (s10_16 a0 (IntKind.i64.wrap (x4 + (1 : Int)))) K)) else (bif (!ByteArray.toList a0 == (ByteArray.mk #[]).toList) == true then ((call 12 [(.v (.int .i64) (x4)), (.v (.int .i64) ((0 : Int))), (.v (.int .i64) ((0 : Int)))]).bind fun (v33 : ByteArray) => bif ByteArray.toList v33 == ByteArray.toList a0 then (K .ret (s10_16x34 a0 x4 v17 v33)) else (LP B call inl 10 m [1, 0, 1] (s10_16 a0 (IntKind.i64.wrap (x4 + (1 : Int)))) K)) else (LP B call inl 10 m [1, 0, 1] (s10_16 a0 (IntKind.i64.wrap (x4 + (1 : Int)))) K)))) else (K (.exit 0) (s10_16x35 a0 x4))) := by kernel_rfl
theorem s10_16x25_k (a0 : ByteArray) (x4 : Int) (v36 : ByteArray) (x37 : Int) (v38 : Int) (v39 : Int) (v40 : ByteArray) : (KA B call inl 10 m [1, 0, 1] (FI B call inl 10)) .ret (s10_16x25 a0 x4 v36 x37 v38 v39 v40) = (some ((x4, v38, v39, ()))) := by kernel_rfl
theorem s10_16x29_k (a0 : ByteArray) (x4 : Int) (v36 : ByteArray) (x37 : Int) (v41 : Int) (v42 : Int) (v43 : ByteArray) : (KA B call inl 10 m [1, 0, 1] (FI B call inl 10)) .ret (s10_16x29 a0 x4 v36 x37 v41 v42 v43) = (some ((x4, v41, v42, ()))) := by kernel_rfl
theorem s10_16x32_k (a0 : ByteArray) (x4 : Int) (v36 : ByteArray) (v44 : Int) (v45 : ByteArray) : (KA B call inl 10 m [1, 0, 1] (FI B call inl 10)) .ret (s10_16x32 a0 x4 v36 v44 v45) = (some ((x4, (0 : Int), v44, ()))) := by kernel_rfl
theorem s10_16x34_k (a0 : ByteArray) (x4 : Int) (v36 : ByteArray) (v46 : ByteArray) : (KA B call inl 10 m [1, 0, 1] (FI B call inl 10)) .ret (s10_16x34 a0 x4 v36 v46) = (some ((x4, (0 : Int), (0 : Int), ()))) := by kernel_rfl
theorem s10_16x35_k (a0 : ByteArray) (x4 : Int) : (KA B call inl 10 m [1, 0, 1] (FI B call inl 10)) (.exit 0) (s10_16x35 a0 x4) = (some (((0 : Int), (0 : Int), (0 : Int), ()))) := by kernel_rfl
theorem t10 (a0 : ByteArray) : stepN B call inl m 10 [argAV .str a0] = (LP B call inl 10 m [1, 0, 1] (s10_16 a0 ((1 : Int))) (KA B call inl 10 m [1, 0, 1] (FI B call inl 10)) : Option (Int × Int × Int × Unit)) := by kernel_rfl
/-! function 11 -/
theorem t11 (a0 : Int) (a1 : Int) (a2 : Int) : stepN B call inl m 11 [argAV (.int .i64) a0, argAV (.int .i64) a1, argAV (.int .i64) a2] = ((call 24 [(.v (.int .i64) (a0))]).bind fun (v0 : ByteArray) => bif ByteArray.toList v0 == (ByteArray.mk #[]).toList then ((call 22 [(.v (.int .i64) (a0))]).bind fun (v1 : ByteArray) => some (v1)) else ((call 29 [(.v (.int .i64) (a2))]).bind fun (v2 : Bool) => bif !v2 then (some ((ByteArray.mk #[]))) else (bif a0 != (7 : Int) then ((call 30 [(.v (.int .i64) (a2))]).bind fun (v3 : ByteArray) => if (↑(ByteArray.size v0 + ByteArray.size v3) : Int) > IntKind.i64.max then (none) else (some (v0 ++ v3))) else ((call 29 [(.v (.int .i64) (a1))]).bind fun (v4 : Bool) => bif !v4 then (some ((ByteArray.mk #[]))) else ((call 30 [(.v (.int .i64) (a1))]).bind fun (v5 : ByteArray) => if (↑(ByteArray.size v0 + ByteArray.size v5) : Int) > IntKind.i64.max then (none) else (if (↑(ByteArray.size (v0 ++ v5) + (ByteArray.mk #[(45 : UInt8)]).size) : Int) > IntKind.i64.max then (none) else ((call 30 [(.v (.int .i64) (a2))]).bind fun (v6 : ByteArray) => if (↑(ByteArray.size (v0 ++ v5 ++ (ByteArray.mk #[(45 : UInt8)])) + ByteArray.size v6) : Int) > IntKind.i64.max then (none) else (some (v0 ++ v5 ++ (ByteArray.mk #[(45 : UInt8)]) ++ v6)))))))) : Option ByteArray) := by kernel_rfl
/-! function 12 -/
theorem t12 (a0 : Int) (a1 : Int) (a2 : Int) : stepN B call inl m 12 [argAV (.int .i64) a0, argAV (.int .i64) a1, argAV (.int .i64) a2] = (bif a0 == (4 : Int) then (some ((ByteArray.mk #[(99 : UInt8), (117 : UInt8), (114 : UInt8), (114 : UInt8), (101 : UInt8), (110 : UInt8), (116 : UInt8)]))) else (bif a0 == (5 : Int) then (some ((ByteArray.mk #[(116 : UInt8), (101 : UInt8), (109 : UInt8), (112 : UInt8)]))) else (bif a0 == (6 : Int) then (some ((ByteArray.mk #[(99 : UInt8), (97 : UInt8), (99 : UInt8), (104 : UInt8), (101 : UInt8)]))) else (bif (a0 == (7 : Int)) == true then ((call 31 [(.v (.int .i64) (a1))]).bind fun (v0 : Bool) => bif v0 == true then ((call 31 [(.v (.int .i64) (a2))]).bind fun (v1 : Bool) => bif v1 then ((call 32 [(.v (.int .i64) (a1))]).bind fun (v2 : ByteArray) => if (↑((ByteArray.mk #[(102 : UInt8), (97 : UInt8), (114 : UInt8), (45 : UInt8)]).size + ByteArray.size v2) : Int) > IntKind.i64.max then (none) else (if (↑(ByteArray.size ((ByteArray.mk #[(102 : UInt8), (97 : UInt8), (114 : UInt8), (45 : UInt8)]) ++ v2) + (ByteArray.mk #[(45 : UInt8)]).size) : Int) > IntKind.i64.max then (none) else ((call 32 [(.v (.int .i64) (a2))]).bind fun (v3 : ByteArray) => if (↑(ByteArray.size ((ByteArray.mk #[(102 : UInt8), (97 : UInt8), (114 : UInt8), (45 : UInt8)]) ++ v2 ++ (ByteArray.mk #[(45 : UInt8)])) + ByteArray.size v3) : Int) > IntKind.i64.max then (none) else (some ((ByteArray.mk #[(102 : UInt8), (97 : UInt8), (114 : UInt8), (45 : UInt8)]) ++ v2 ++ (ByteArray.mk #[(45 : UInt8)]) ++ v3))))) else ((call 27 [(.v (.int .i64) (a0))]).bind fun (v4 : ByteArray) => bif (!ByteArray.toList v4 == (ByteArray.mk #[]).toList) == true then ((call 31 [(.v (.int .i64) (a2))]).bind fun (v5 : Bool) => bif v5 then ((call 27 [(.v (.int .i64) (a0))]).bind fun (v6 : ByteArray) => (call 32 [(.v (.int .i64) (a2))]).bind fun (v7 : ByteArray) => if (↑(ByteArray.size v6 + ByteArray.size v7) : Int) > IntKind.i64.max then (none) else (some (v6 ++ v7))) else (some ((ByteArray.mk #[])))) else (some ((ByteArray.mk #[]))))) else ((call 27 [(.v (.int .i64) (a0))]).bind fun (v8 : ByteArray) => bif (!ByteArray.toList v8 == (ByteArray.mk #[]).toList) == true then ((call 31 [(.v (.int .i64) (a2))]).bind fun (v9 : Bool) => bif v9 then ((call 27 [(.v (.int .i64) (a0))]).bind fun (v10 : ByteArray) => (call 32 [(.v (.int .i64) (a2))]).bind fun (v11 : ByteArray) => if (↑(ByteArray.size v10 + ByteArray.size v11) : Int) > IntKind.i64.max then (none) else (some (v10 ++ v11))) else (some ((ByteArray.mk #[])))) else (some ((ByteArray.mk #[]))))) else ((call 27 [(.v (.int .i64) (a0))]).bind fun (v12 : ByteArray) => bif (!ByteArray.toList v12 == (ByteArray.mk #[]).toList) == true then ((call 31 [(.v (.int .i64) (a2))]).bind fun (v13 : Bool) => bif v13 then ((call 27 [(.v (.int .i64) (a0))]).bind fun (v14 : ByteArray) => (call 32 [(.v (.int .i64) (a2))]).bind fun (v15 : ByteArray) => if (↑(ByteArray.size v14 + ByteArray.size v15) : Int) > IntKind.i64.max then (none) else (some (v14 ++ v15))) else (some ((ByteArray.mk #[])))) else (some ((ByteArray.mk #[]))))))) : Option ByteArray) := by kernel_rfl
/-! function 22 -/
theorem t22 (a0 : Int) : stepN B call inl m 22 [argAV (.int .i64) a0] = (bif a0 == (4 : Int) then (some ((ByteArray.mk #[(99 : UInt8), (117 : UInt8), (114 : UInt8), (114 : UInt8), (101 : UInt8), (110 : UInt8), (116 : UInt8)]))) else (bif a0 == (5 : Int) then (some ((ByteArray.mk #[(116 : UInt8), (101 : UInt8), (109 : UInt8), (112 : UInt8)]))) else (bif a0 == (6 : Int) then (some ((ByteArray.mk #[(99 : UInt8), (97 : UInt8), (99 : UInt8), (104 : UInt8), (101 : UInt8)]))) else (some ((ByteArray.mk #[]))))) : Option ByteArray) := by kernel_rfl
/-! function 23 -/
theorem t23 (a0 : ByteArray) (a1 : ByteArray) : stepN B call inl m 23 [argAV .str a0, argAV .str a1] = ((call 38 [(.v .str (a0)), (.v .str (a1))]).bind fun (v0 : (ByteArray × Bool × Unit)) => some ((v0.fst, v0.snd.fst, ())) : Option (ByteArray × Bool × Unit)) := by kernel_rfl
/-! function 24 -/
theorem t24 (a0 : Int) : stepN B call inl m 24 [argAV (.int .i64) a0] = (bif a0 == (1 : Int) then (some ((ByteArray.mk #[(108 : UInt8), (111 : UInt8), (103 : UInt8), (45 : UInt8)]))) else (bif a0 == (2 : Int) then (some ((ByteArray.mk #[(116 : UInt8), (97 : UInt8), (98 : UInt8), (108 : UInt8), (101 : UInt8), (45 : UInt8)]))) else (bif a0 == (3 : Int) then (some ((ByteArray.mk #[(108 : UInt8), (105 : UInt8), (115 : UInt8), (116 : UInt8), (45 : UInt8)]))) else (bif a0 == (8 : Int) then (some ((ByteArray.mk #[(109 : UInt8), (97 : UInt8), (114 : UInt8), (107 : UInt8), (45 : UInt8)]))) else (bif a0 == (7 : Int) then (some ((ByteArray.mk #[(102 : UInt8), (97 : UInt8), (114 : UInt8), (45 : UInt8)]))) else (some ((ByteArray.mk #[]))))))) : Option ByteArray) := by kernel_rfl
/-! function 27 -/
theorem t27 (a0 : Int) : stepN B call inl m 27 [argAV (.int .i64) a0] = (bif a0 == (1 : Int) then (some ((ByteArray.mk #[(108 : UInt8), (111 : UInt8), (103 : UInt8), (45 : UInt8)]))) else (bif a0 == (2 : Int) then (some ((ByteArray.mk #[(116 : UInt8), (97 : UInt8), (98 : UInt8), (108 : UInt8), (101 : UInt8), (45 : UInt8)]))) else (bif a0 == (3 : Int) then (some ((ByteArray.mk #[(108 : UInt8), (105 : UInt8), (115 : UInt8), (116 : UInt8), (45 : UInt8)]))) else (bif a0 == (8 : Int) then (some ((ByteArray.mk #[(109 : UInt8), (97 : UInt8), (114 : UInt8), (107 : UInt8), (45 : UInt8)]))) else (some ((ByteArray.mk #[])))))) : Option ByteArray) := by kernel_rfl
/-! function 28 -/
def s28_2 (a0 : ByteArray) (a1 : Int) (a2 : Int) (x0 : Int) (x1 : Int) : St := { t := [(.v .str (a0)), (.v (.int .i64) (a1)), (.v (.int .i64) (a2)), (.raw undef), (.raw undef), (.raw undef), .bad, (.v (.int .i64) (x0)), (.v (.int .i64) (x1)), (.v (.int .i64) (a1)), (.v (.int .i64) (a2)), (.v .bool (decide (a1 ≥ a2))), (.v .bool (false)), (.v (.int .i64) (a2)), (.v (.int .i64) (a1)), (.v (.int .i64) (IntKind.i64.wrap (a2 - a1))), (.v .bool (decide (IntKind.i64.wrap (a2 - a1) > (16 : Int)))), (.v .bool (decide (IntKind.i64.wrap (a2 - a1) > (16 : Int)))), (.v (.int .i64) (a1)), .bad, .bad, .bad, .bad, .bad, .bad, .bad, .bad, .bad, .bad, .bad, .bad, .bad, .bad, .bad, .bad, .bad, .bad, .bad, .bad, .bad, .bad, .bad, (.raw undef)], bx := [], live := 0, g := [] }
def s28_2x3 (y0 : ByteArray) (y1 : Int) (y2 : Int) (y3 : Int) (y4 : Int) : St := { t := [(.v .str (y0)), (.v (.int .i64) (y1)), (.v (.int .i64) (y2)), (.raw undef), (.raw undef), (.raw undef), (.v (.int .i64) ((-1 : Int))), (.v (.int .i64) (y3)), (.v (.int .i64) (y4)), (.v (.int .i64) (y1)), (.v (.int .i64) (y2)), (.v .bool (decide (y1 ≥ y2))), (.v .bool (false)), (.v (.int .i64) (y2)), (.v (.int .i64) (y1)), (.v (.int .i64) (IntKind.i64.wrap (y2 - y1))), (.v .bool (decide (IntKind.i64.wrap (y2 - y1) > (16 : Int)))), (.v .bool (decide (IntKind.i64.wrap (y2 - y1) > (16 : Int)))), (.v (.int .i64) (y1)), (.v (.int .i64) (y4)), (.v (.int .i64) (y2)), (.v .bool (decide (y4 < y2))), .bad, .bad, (.v .str (y0)), (.v (.int .i64) (y4)), (.v (.int .u8) (byteAt y0 y4)), (.v .bool (decide (byteAt y0 y4 < (48 : Int)))), (.v .bool (false)), (.v .str (y0)), (.v (.int .i64) (y4)), (.v (.int .u8) (byteAt y0 y4)), (.v .bool (decide (byteAt y0 y4 > (57 : Int)))), (.v .bool (decide (byteAt y0 y4 > (57 : Int)))), .bad, .bad, .bad, .bad, .bad, .bad, .bad, .bad, (.raw undef)], bx := [none, none, none, none, none, none, none, none, none, none, none, none, none, none], live := 0, g := [] }
def s28_2x4 (y0 : ByteArray) (y1 : Int) (y2 : Int) (y3 : Int) (y4 : Int) : St := { t := [(.v .str (y0)), (.v (.int .i64) (y1)), (.v (.int .i64) (y2)), (.raw undef), (.raw undef), (.raw undef), (.v (.int .i64) ((-1 : Int))), (.v (.int .i64) (y3)), (.v (.int .i64) (y4)), (.v (.int .i64) (y1)), (.v (.int .i64) (y2)), (.v .bool (decide (y1 ≥ y2))), (.v .bool (false)), (.v (.int .i64) (y2)), (.v (.int .i64) (y1)), (.v (.int .i64) (IntKind.i64.wrap (y2 - y1))), (.v .bool (decide (IntKind.i64.wrap (y2 - y1) > (16 : Int)))), (.v .bool (decide (IntKind.i64.wrap (y2 - y1) > (16 : Int)))), (.v (.int .i64) (y1)), (.v (.int .i64) (y4)), (.v (.int .i64) (y2)), (.v .bool (decide (y4 < y2))), .bad, .bad, (.v .str (y0)), (.v (.int .i64) (y4)), (.v (.int .u8) (byteAt y0 y4)), (.v .bool (decide (byteAt y0 y4 < (48 : Int)))), (.v .bool (!false)), (.raw undef), (.raw undef), (.raw undef), (.raw undef), (.v .bool (true)), .bad, .bad, .bad, .bad, .bad, .bad, .bad, .bad, (.raw undef)], bx := [none, none, none, none, none, none, none, none, none, none, none, none, none, none], live := 0, g := [] }
def s28_2x5 (y0 : ByteArray) (y1 : Int) (y2 : Int) (y3 : Int) (y4 : Int) : St := { t := [(.v .str (y0)), (.v (.int .i64) (y1)), (.v (.int .i64) (y2)), (.raw undef), (.raw undef), (.raw undef), .bad, (.v (.int .i64) (y3)), (.v (.int .i64) (y4)), (.v (.int .i64) (y1)), (.v (.int .i64) (y2)), (.v .bool (decide (y1 ≥ y2))), (.v .bool (false)), (.v (.int .i64) (y2)), (.v (.int .i64) (y1)), (.v (.int .i64) (IntKind.i64.wrap (y2 - y1))), (.v .bool (decide (IntKind.i64.wrap (y2 - y1) > (16 : Int)))), (.v .bool (decide (IntKind.i64.wrap (y2 - y1) > (16 : Int)))), (.v (.int .i64) (y1)), (.v (.int .i64) (y4)), (.v (.int .i64) (y2)), (.v .bool (decide (y4 < y2))), .bad, .bad, .bad, .bad, .bad, .bad, .bad, .bad, .bad, .bad, .bad, .bad, .bad, .bad, .bad, .bad, .bad, .bad, .bad, .bad, (.raw undef)], bx := [none, none, none], live := 0, g := [] }
theorem s28_2_l {R : Type} (K : AEx → St → Option R) (a0 : ByteArray) (a1 : Int) (a2 : Int) (x0 : Int) (x1 : Int) : LP B call inl 28 (m + 1) [1, 1, 1, 0, 1] (s28_2 a0 a1 a2 x0 x1) K = (bif decide (x1 < a2) then (if (0 : Int) ≤ x1 ∧ x1 < (↑(ByteArray.size a0) : Int) then (bif decide (byteAt a0 x1 < (48 : Int)) == false then (if (0 : Int) ≤ x1 ∧ x1 < (↑(ByteArray.size a0) : Int) then (bif decide (byteAt a0 x1 > (57 : Int)) then (K .ret (s28_2x3 a0 a1 a2 x0 x1)) else (if (0 : Int) ≤ x1 ∧ x1 < (↑(ByteArray.size a0) : Int) then (LP B call inl 28 m [1, 1, 1, 0, 1] (s28_2 a0 a1 a2 (IntKind.i64.wrap (IntKind.i64.wrap ((10 : Int) * x0) + IntKind.i64.wrap (IntKind.u8.wrap (byteAt a0 x1 - (48 : Int))))) (IntKind.i64.wrap (x1 + (1 : Int)))) K) else (none))) else (none)) else (K .ret (s28_2x4 a0 a1 a2 x0 x1))) else (none)) else (K (.exit 0) (s28_2x5 a0 a1 a2 x0 x1))) := by kernel_rfl
theorem s28_2x3_k (a0 : ByteArray) (a1 : Int) (a2 : Int) (x0 : Int) (x1 : Int) : (KA B call inl 28 m [1, 1, 1, 0, 1] (FI B call inl 28)) .ret (s28_2x3 a0 a1 a2 x0 x1) = (some ((-1 : Int))) := by kernel_rfl
theorem s28_2x4_k (a0 : ByteArray) (a1 : Int) (a2 : Int) (x0 : Int) (x1 : Int) : (KA B call inl 28 m [1, 1, 1, 0, 1] (FI B call inl 28)) .ret (s28_2x4 a0 a1 a2 x0 x1) = (some ((-1 : Int))) := by kernel_rfl
theorem s28_2x5_k (a0 : ByteArray) (a1 : Int) (a2 : Int) (x0 : Int) (x1 : Int) : (KA B call inl 28 m [1, 1, 1, 0, 1] (FI B call inl 28)) (.exit 0) (s28_2x5 a0 a1 a2 x0 x1) = (some (x0)) := by kernel_rfl
theorem t28 (a0 : ByteArray) (a1 : Int) (a2 : Int) : stepN B call inl m 28 [argAV .str a0, argAV (.int .i64) a1, argAV (.int .i64) a2] = (bif decide (a1 ≥ a2) == false then (bif decide (IntKind.i64.wrap (a2 - a1) > (16 : Int)) then (some ((-1 : Int))) else (LP B call inl 28 m [1, 1, 1, 0, 1] (s28_2 a0 a1 a2 ((0 : Int)) (a1)) (KA B call inl 28 m [1, 1, 1, 0, 1] (FI B call inl 28)))) else (some ((-1 : Int))) : Option Int) := by kernel_rfl
/-! function 29 -/
theorem t29 (a0 : Int) : stepN B call inl m 29 [argAV (.int .i64) a0] = (bif decide (a0 ≥ (0 : Int)) == true then (some (decide (a0 ≤ (9007199254740992 : Int)))) else (some (false)) : Option Bool) := by kernel_rfl
/-! function 31 -/
theorem t31 (a0 : Int) : stepN B call inl m 31 [argAV (.int .i64) a0] = (bif decide (a0 ≥ (0 : Int)) == true then (some (decide (a0 ≤ (9007199254740992 : Int)))) else (some (false)) : Option Bool) := by kernel_rfl
/-! function 32 -/
def s32_2 (x0 : Int) (x1 : ByteArray) : St := { t := [(.v (.int .i64) (x0)), (.raw undef), (.v .str ((ByteArray.mk #[]))), (.v .str (x1)), .bad, .bad, .bad, .bad, .bad, .bad, .bad, .bad, .bad, .bad, .bad, .bad, (.raw undef), (.raw undef), (.raw undef), (.raw undef), (.raw undef), (.raw undef), (.raw undef)], bx := [], live := 0, g := [] }
def s32_2x3 (y0 : Int) (y1 : ByteArray) : St := { t := [(.v (.int .i64) (y0)), (.raw undef), (.v .str ((ByteArray.mk #[]))), (.v .str (y1)), (.v (.int .i64) (y0)), (.v .bool (decide (y0 ≥ (10 : Int)))), .bad, .bad, .bad, .bad, .bad, .bad, .bad, .bad, .bad, .bad, (.raw undef), (.raw undef), (.raw undef), (.raw undef), (.raw undef), (.raw undef), (.raw undef)], bx := [none, none], live := 0, g := [] }
theorem s32_2_l {R : Type} (K : AEx → St → Option R) (x0 : Int) (x1 : ByteArray) : LP B call inl 32 (m + 1) [1, 1, 0] (s32_2 x0 x1) K = (bif decide (x0 ≥ (10 : Int)) then (if (↑((strOf [IntKind.u8.wrap (IntKind.i64.wrap ((48 : Int) + Int.tmod x0 (10 : Int)))]).size + x1.size) : Int) > IntKind.i64.max then (none) else (LP B call inl 32 m [1, 1, 0] (s32_2 (IntKind.i64.wrap (Int.tdiv x0 (10 : Int))) (strOf [IntKind.u8.wrap (IntKind.i64.wrap ((48 : Int) + Int.tmod x0 (10 : Int)))] ++ x1)) K)) else (K (.exit 0) (s32_2x3 x0 x1))) := by kernel_rfl
theorem s32_2x3_k (x0 : Int) (x1 : ByteArray) : (KA B call inl 32 m [1, 1, 0] (FI B call inl 32)) (.exit 0) (s32_2x3 x0 x1) = (if (↑((strOf [IntKind.u8.wrap (IntKind.i64.wrap ((48 : Int) + x0))]).size + x1.size) : Int) > IntKind.i64.max then (none) else (some (strOf [IntKind.u8.wrap (IntKind.i64.wrap ((48 : Int) + x0))] ++ x1))) := by kernel_rfl
theorem t32 (a0 : Int) : stepN B call inl m 32 [argAV (.int .i64) a0] = (LP B call inl 32 m [1, 1, 0] (s32_2 (a0) ((ByteArray.mk #[]))) (KA B call inl 32 m [1, 1, 0] (FI B call inl 32)) : Option ByteArray) := by kernel_rfl
/-! function 38 -/
theorem t38 (a0 : ByteArray) (a1 : ByteArray) : stepN B call inl m 38 [argAV .str a0, argAV .str a1] = ((call 51 [(.v .str (a0)), (.v .str (a1))]).bind fun (v0 : Bool) => bif !v0 then (some ((a0, false, ()))) else (if (0 : Int) ≤ (↑(ByteArray.size a1) : Int) ∧ (↑(ByteArray.size a1) : Int) ≤ (↑(ByteArray.size a0) : Int) then (some ((ByteArray.extract a0 (↑(ByteArray.size a1) : Int).toNat (ByteArray.size a0), true, ()))) else (none)) : Option (ByteArray × Bool × Unit)) := by kernel_rfl
/-! function 51 -/
theorem t51 (a0 : ByteArray) (a1 : ByteArray) : stepN B call inl m 51 [argAV .str a0, argAV .str a1] = (bif decide ((↑(ByteArray.size a0) : Int) ≥ (↑(ByteArray.size a1) : Int)) == true then (if (0 : Int) ≤ (↑(ByteArray.size a1) : Int) ∧ (↑(ByteArray.size a1) : Int) ≤ (↑(ByteArray.size a0) : Int) then (some ((ByteArray.extract a0 (0 : Nat) (↑(ByteArray.size a1) : Int).toNat).toList == ByteArray.toList a1)) else (none)) else (some (false)) : Option Bool) := by kernel_rfl
end
end Go.Eng.Bk
/- Names: what the small functions answer. -/
namespace Go.Eng.Bk
open Go Go.Proofs Go.Eng
set_option linter.unusedVariables false
set_option linter.unusedSimpArgs false
set_option maxRecDepth 100000
abbrev curS : ByteArray := { data := #[(99 : UInt8), (117 : UInt8), (114 : UInt8), (114 : UInt8), (101 : UInt8), (110 : UInt8), (116 : UInt8)] }
abbrev tmpS : ByteArray := { data := #[(116 : UInt8), (101 : UInt8), (109 : UInt8), (112 : UInt8)] }
abbrev cacS : ByteArray := { data := #[(99 : UInt8), (97 : UInt8), (99 : UInt8), (104 : UInt8), (101 : UInt8)] }
abbrev logS : ByteArray := { data := #[(108 : UInt8), (111 : UInt8), (103 : UInt8), (45 : UInt8)] }
abbrev tabS : ByteArray := { data := #[(116 : UInt8), (97 : UInt8), (98 : UInt8), (108 : UInt8), (101 : UInt8), (45 : UInt8)] }
abbrev lisS : ByteArray := { data := #[(108 : UInt8), (105 : UInt8), (115 : UInt8), (116 : UInt8), (45 : UInt8)] }
abbrev marS : ByteArray := { data := #[(109 : UInt8), (97 : UInt8), (114 : UInt8), (107 : UInt8), (45 : UInt8)] }
abbrev farS : ByteArray := { data := #[(102 : UInt8), (97 : UInt8), (114 : UInt8), (45 : UInt8)] }
abbrev dash : ByteArray := { data := #[(45 : UInt8)] }
abbrev noS : ByteArray := { data := #[] }
def wholeB (a0 : Int) : ByteArray := bif a0 == (4 : Int) then curS else bif a0 == (5 : Int) then tmpS else bif a0 == (6 : Int) then cacS else noS
def headB (a0 : Int) : ByteArray := bif a0 == (1 : Int) then logS else bif a0 == (2 : Int) then tabS else bif a0 == (3 : Int) then lisS else bif a0 == (8 : Int) then marS else bif a0 == (7 : Int) then farS else noS
def wordB (a0 : Int) : ByteArray := bif a0 == (1 : Int) then logS else bif a0 == (2 : Int) then tabS else bif a0 == (3 : Int) then lisS else bif a0 == (8 : Int) then marS else noS
def mayI (n : Int) : Bool := decide (0 ≤ n ∧ n ≤ 9007199254740992)
theorem seq_dec (a b : ByteArray) : (ByteArray.toList a == ByteArray.toList b) = decide (a = b) := by
  by_cases h : a = b
  · rw [decide_eq_true h, h]; exact beq_self_eq_true _
  · rw [decide_eq_false h]
    exact beq_eq_false_iff_ne.2 fun e => h (ba_ext e)
theorem s22 {k : Nat} (hk : 1 ≤ k) (x : Int) : callN B k 22 [.v i64 x] = (some (wholeB x) : Option ByteArray) := by
  obtain ⟨k, rfl⟩ := Nat.exists_eq_add_of_le' hk
  refine (callS k 22 _).trans ((t22 (callN B k) (lvl B k).2 k x).trans ?_)
  unfold wholeB
  cases x == (4 : Int) <;> cases x == (5 : Int) <;> cases x == (6 : Int) <;> rfl
theorem s24 {k : Nat} (hk : 1 ≤ k) (x : Int) : callN B k 24 [.v i64 x] = (some (headB x) : Option ByteArray) := by
  obtain ⟨k, rfl⟩ := Nat.exists_eq_add_of_le' hk
  refine (callS k 24 _).trans ((t24 (callN B k) (lvl B k).2 k x).trans ?_)
  unfold headB
  cases x == (1 : Int) <;> cases x == (2 : Int) <;> cases x == (3 : Int) <;> cases x == (8 : Int) <;> cases x == (7 : Int) <;> rfl
theorem s27 {k : Nat} (hk : 1 ≤ k) (x : Int) : callN B k 27 [.v i64 x] = (some (wordB x) : Option ByteArray) := by
  obtain ⟨k, rfl⟩ := Nat.exists_eq_add_of_le' hk
  refine (callS k 27 _).trans ((t27 (callN B k) (lvl B k).2 k x).trans ?_)
  unfold wordB
  cases x == (1 : Int) <;> cases x == (2 : Int) <;> cases x == (3 : Int) <;> cases x == (8 : Int) <;> rfl
theorem may_tree (n : Int) : (bif Decidable.decide (n ≥ (0 : Int)) == Bool.true then (some (Decidable.decide (n ≤ (9007199254740992 : Int)))) else (some (Bool.false)) : Option Bool) = some (mayI n) := by
  unfold mayI
  by_cases h : (0 : Int) ≤ n
  · by_cases h2 : n ≤ 9007199254740992
    · rw [decide_eq_true (show n ≥ 0 from h), decide_eq_true h2, decide_eq_true (⟨h, h2⟩ : 0 ≤ n ∧ n ≤ 9007199254740992)]; rfl
    · rw [decide_eq_true (show n ≥ 0 from h), decide_eq_false h2, decide_eq_false (fun hh : 0 ≤ n ∧ n ≤ 9007199254740992 => h2 hh.2)]; rfl
  · rw [decide_eq_false (show ¬ n ≥ 0 from h), decide_eq_false (fun hh : 0 ≤ n ∧ n ≤ 9007199254740992 => h hh.1)]; rfl
theorem s29 {k : Nat} (hk : 1 ≤ k) (n : Int) : callN B k 29 [.v i64 n] = (some (mayI n) : Option Bool) := by
  obtain ⟨k, rfl⟩ := Nat.exists_eq_add_of_le' hk
  exact (callS k 29 _).trans ((t29 (callN B k) (lvl B k).2 k n).trans (may_tree n))
theorem s31 {k : Nat} (hk : 1 ≤ k) (n : Int) : callN B k 31 [.v i64 n] = (some (mayI n) : Option Bool) := by
  obtain ⟨k, rfl⟩ := Nat.exists_eq_add_of_le' hk
  exact (callS k 31 _).trans ((t31 (callN B k) (lvl B k).2 k n).trans (may_tree n))
theorem s30 {k : Nat} (hk : 1 ≤ k) {n : Int} (h0 : -9223372036854775808 ≤ n) (h1 : n ≤ 9223372036854775807) : callN B k 30 [.v i64 n] = (some (itoaB n) : Option ByteArray) := by
  obtain ⟨k, rfl⟩ := Nat.exists_eq_add_of_le' hk
  refine (callS k 30 _).trans ?_
  show (if (-9223372036854775808 : Int) ≤ n ∧ (n : Int) ≤ 9223372036854775807 then some (itoaB n) else none) = _
  rw [if_pos ⟨h0, h1⟩]
theorem s26 {k : Nat} (hk : 1 ≤ k) {s : ByteArray} (hs : s.size ≤ 281474976710656) : callN B k 26 [.v .str s] = (some (numB s) : Option (Int × (Bool × Unit))) := by
  obtain ⟨k, rfl⟩ := Nat.exists_eq_add_of_le' hk
  refine (callS k 26 _).trans ?_
  show (if s.size ≤ 281474976710656 then some (numB s) else none) = _
  rw [if_pos hs]
theorem s25 {k : Nat} (hk : 1 ≤ k) {s p : ByteArray} (hs : s.size < 4294967281) : callN B k 25 [.v .str s, .v .str p] = (some (cutB s p) : Option (ByteArray × (ByteArray × (Bool × Unit)))) := by
  obtain ⟨k, rfl⟩ := Nat.exists_eq_add_of_le' hk
  refine (callS k 25 _).trans ?_
  show (if s.size < 4294967281 then some (cutB s p) else none) = _
  rw [if_pos hs]
/-! digits -/
theorem l32 {call : CallT B} {inl : InlT} (m0 : Nat) (d : Nat) : ∀ (n m : Nat) (acc : ByteArray), n < 10 ^ (d + 1) → n < 9223372036854775808 → acc.size + d < 1000 → d < m → d < 20 →
    LP B call inl 32 m [1, 1, 0] (s32_2 (n : Int) acc) (KA B call inl 32 m0 [1, 1, 0] (FI B call inl 32)) = (some (dgA (d + 1) n acc) : Option ByteArray) := by
  have hmax : IntKind.i64.max = 9223372036854775807 := by decide
  have last : ∀ (d n m : Nat) (acc : ByteArray), n < 10 → acc.size < 1000 → LP B call inl 32 (m + 1) [1, 1, 0] (s32_2 (n : Int) acc) (KA B call inl 32 m0 [1, 1, 0] (FI B call inl 32)) = (some (dgA (d + 1) n acc) : Option ByteArray) := by
    intro d n m acc h ho
    have e1 : IntKind.u8.wrap (IntKind.i64.wrap ((48 : Int) + (n : Int))) = ((48 + n : Nat) : Int) := by rw [w64 (by omega) (by omega), wu8]; omega
    have e2 : (strOf [((48 + n : Nat) : Int)]).size = 1 := by rw [strOf_len]; rfl
    rw [s32_2_l, bF (by omega), s32_2x3_k, e1, if_neg (by rw [hmax, e2]; omega)]
    simp only [dgA]
    rw [if_neg (by omega)]
  induction d with
  | zero =>
    intro n m acc h hn ho hm hd
    obtain ⟨m, rfl⟩ : ∃ k, m = k + 1 := ⟨m - 1, by omega⟩
    exact last 0 n m acc (by simpa using h) (by omega)
  | succ d ih =>
    intro n m acc h hn ho hm hd
    obtain ⟨m, rfl⟩ : ∃ k, m = k + 1 := ⟨m - 1, by omega⟩
    by_cases h1 : n < 10
    · exact last (d + 1) n m acc h1 (by omega)
    · have e0 : Int.tmod (n : Int) (10 : Int) = ((n % 10 : Nat) : Int) := rfl
      have e3 : Int.tdiv (n : Int) (10 : Int) = ((n / 10 : Nat) : Int) := rfl
      have e1 : IntKind.u8.wrap (IntKind.i64.wrap ((48 : Int) + ((n % 10 : Nat) : Int))) = ((48 + n % 10 : Nat) : Int) := by rw [w64 (by omega) (by omega), wu8]; omega
      have e2 : (strOf [((48 + n % 10 : Nat) : Int)]).size = 1 := by rw [strOf_len]; rfl
      rw [s32_2_l, bT (by omega), e0, e3, e1, if_neg (by rw [hmax, e2]; omega), w64 (x := ((n / 10 : Nat) : Int)) (by omega) (by omega)]
      refine (ih (n / 10) m _ (by rw [Nat.pow_succ] at h; omega) (by omega) (by rw [ByteArray.size_append, e2]; omega) (by omega) (by omega)).trans ?_
      have : dgA (d + 1 + 1) n acc = dgA (d + 1) (n / 10) (strOf [((48 + n % 10 : Nat) : Int)] ++ acc) := by
        conv => lhs; unfold dgA
        rw [if_pos (by omega)]
      rw [this]
theorem s32 {k : Nat} (hk : 24 ≤ k) (n : Nat) (hn : n < 9223372036854775808) : callN B k 32 [.v i64 (n : Int)] = (some (itoaB (n : Int)) : Option ByteArray) := by
  obtain ⟨k, rfl⟩ := Nat.exists_eq_add_of_le' (show 1 ≤ k by omega)
  refine (callS k 32 _).trans ((t32 (callN B k) (lvl B k).2 k (n : Int)).trans ?_)
  rw [← dg_itoa (by omega)]
  exact l32 k 19 n k ⟨#[]⟩ (by rw [show (10 : Nat) ^ (19 + 1) = 100000000000000000000 from by decide]; omega) hn (by decide) (by omega) (by omega)
end Go.Eng.Bk
/- Names: a name's text. -/
namespace Go.Eng.Bk
open Go Go.Proofs Go.Eng
set_option linter.unusedVariables false
set_option linter.unusedSimpArgs false
set_option maxRecDepth 100000
def nameB (k e n : Int) : ByteArray := if headB k = noS then wholeB k else if mayI n = false then noS else if k = 7 then (if mayI e = false then noS else headB k ++ itoaB e ++ dash ++ itoaB n) else headB k ++ itoaB n
theorem head_cases (k : Int) : (k = 1 ∧ headB k = logS) ∨ (k = 2 ∧ headB k = tabS) ∨ (k = 3 ∧ headB k = lisS) ∨ (k = 8 ∧ headB k = marS) ∨ (k = 7 ∧ headB k = farS) ∨ ((k ≠ 1 ∧ k ≠ 2 ∧ k ≠ 3 ∧ k ≠ 8 ∧ k ≠ 7) ∧ headB k = noS) := by
  by_cases h1 : k = 1
  · exact .inl ⟨h1, by rw [h1]; rfl⟩
  by_cases h2 : k = 2
  · exact .inr (.inl ⟨h2, by rw [h2]; rfl⟩)
  by_cases h3 : k = 3
  · exact .inr (.inr (.inl ⟨h3, by rw [h3]; rfl⟩))
  by_cases h8 : k = 8
  · exact .inr (.inr (.inr (.inl ⟨h8, by rw [h8]; rfl⟩)))
  by_cases h7 : k = 7
  · exact .inr (.inr (.inr (.inr (.inl ⟨h7, by rw [h7]; rfl⟩))))
  · refine .inr (.inr (.inr (.inr (.inr ⟨⟨h1, h2, h3, h8, h7⟩, ?_⟩))))
    unfold headB
    rw [beq_false_of_ne h1, beq_false_of_ne h2, beq_false_of_ne h3, beq_false_of_ne h8, beq_false_of_ne h7]
    rfl
theorem head_size (k : Int) : (headB k).size ≤ 6 := by
  rcases head_cases k with ⟨_, h⟩ | ⟨_, h⟩ | ⟨_, h⟩ | ⟨_, h⟩ | ⟨_, h⟩ | ⟨_, h⟩ <;> rw [h] <;> decide
theorem word_eq {k : Int} (h : k ≠ 7) : wordB k = headB k := by
  unfold wordB headB
  rw [beq_false_of_ne h]
  rfl
theorem mayI_t {n : Int} (h : mayI n = true) : 0 ≤ n ∧ n ≤ 9007199254740992 := of_decide_eq_true h
theorem max64 : IntKind.i64.max = 9223372036854775807 := by decide
theorem s11 {k : Nat} (hk : 2 ≤ k) (a0 a1 a2 : Int) : callN B k 11 [.v i64 a0, .v i64 a1, .v i64 a2] = (some (nameB a0 a1 a2) : Option ByteArray) := by
  obtain ⟨k, rfl⟩ := Nat.exists_eq_add_of_le' (show 1 ≤ k by omega)
  refine (callS k 11 _).trans ((t11 (callN B k) (lvl B k).2 k a0 a1 a2).trans ?_)
  refine bnd (s24 (by omega) a0) ?_
  rw [seq_dec]
  have hs := head_size a0
  have hd : ({ data := #[(45 : UInt8)] } : ByteArray).size = 1 := rfl
  unfold nameB
  by_cases hh : headB a0 = noS
  · rw [bT hh, if_pos hh]
    exact bnd (s22 (by omega) a0) rfl
  · rw [bF hh, if_neg hh]
    refine bnd (s29 (by omega) a2) ?_
    cases hm : mayI a2 with
    | false => rfl
    | true =>
      obtain ⟨m0, m1⟩ := mayI_t hm
      have z2 := itoaB_size m0 m1
      rw [if_neg (by decide)]
      show (bif a0 != (7 : Int) then _ else _) = _
      by_cases h7 : a0 = 7
      · rw [if_pos h7, show (a0 != (7 : Int)) = false by rw [h7]; rfl]
        refine bnd (s29 (by omega) a1) ?_
        cases hm1 : mayI a1 with
        | false => rfl
        | true =>
          obtain ⟨n0, n1⟩ := mayI_t hm1
          have z1 := itoaB_size n0 n1
          rw [if_neg (by decide)]
          refine bnd (s30 (by omega) (by omega) (by omega)) ?_
          rw [max64, if_neg (by omega), if_neg (by rw [ByteArray.size_append]; omega)]
          refine bnd (s30 (by omega) (by omega) (by omega)) ?_
          rw [if_neg (by rw [ByteArray.size_append, ByteArray.size_append]; omega)]
      · rw [if_neg h7, show (a0 != (7 : Int)) = true from bne_iff_ne.2 h7]
        refine bnd (s30 (by omega) (by omega) (by omega)) ?_
        rw [max64, if_neg (by omega)]
theorem s12 {k : Nat} (hk : 25 ≤ k) (a0 a1 a2 : Int) : callN B k 12 [.v i64 a0, .v i64 a1, .v i64 a2] = (some (nameB a0 a1 a2) : Option ByteArray) := by
  obtain ⟨k, rfl⟩ := Nat.exists_eq_add_of_le' (show 1 ≤ k by omega)
  refine (callS k 12 _).trans ((t12 (callN B k) (lvl B k).2 k a0 a1 a2).trans ?_)
  have digs : ∀ {n : Int}, 0 ≤ n → n ≤ 9007199254740992 → callN B k 32 [.v i64 n] = (some (itoaB n) : Option ByteArray) := fun {n} h0 h1 => by
    obtain ⟨m, rfl⟩ := Int.eq_ofNat_of_zero_le h0
    exact s32 (by omega) m (by omega)
  by_cases h4 : a0 = 4
  · subst h4; rfl
  by_cases h5 : a0 = 5
  · subst h5; rfl
  by_cases h6 : a0 = 6
  · subst h6; rfl
  rw [beq_false_of_ne h4, beq_false_of_ne h5, beq_false_of_ne h6]
  have hd : ({ data := #[(45 : UInt8)] } : ByteArray).size = 1 := rfl
  have hf : ({ data := #[(102 : UInt8), (97 : UInt8), (114 : UInt8), (45 : UInt8)] } : ByteArray).size = 4 := rfl
  have hw : wholeB a0 = noS := by unfold wholeB; rw [beq_false_of_ne h4, beq_false_of_ne h5, beq_false_of_ne h6]; rfl
  by_cases h7 : a0 = 7
  · subst h7
    have hn : wordB 7 = noS := rfl
    have tail : ((callN B k 27 [(.v (.int .i64) ((7 : Int)))] : Option ByteArray).bind fun (v4 : ByteArray) => bif (!ByteArray.toList v4 == noS.toList) == Bool.true then ((callN B k 31 [(.v (.int .i64) (a2))] : Option Bool).bind fun (v5 : Bool) => bif v5 then ((callN B k 27 [(.v (.int .i64) ((7 : Int)))] : Option ByteArray).bind fun (v6 : ByteArray) => (callN B k 32 [(.v (.int .i64) (a2))] : Option ByteArray).bind fun (v7 : ByteArray) => if (↑(ByteArray.size v6 + ByteArray.size v7) : Int) > Go.IntKind.i64.max then (none) else (some (v6 ++ v7))) else (some noS)) else (some noS)) = some noS := by
      refine bnd (s27 (by omega) 7) ?_
      rw [hn, seq_dec, decide_eq_true rfl]
      rfl
    have hh : headB 7 = farS := rfl
    unfold nameB
    rw [if_neg (by rw [hh]; decide), hh]
    refine bnd (s31 (by omega) a1) ?_
    cases hm1 : mayI a1 with
    | false =>
      refine tail.trans ?_
      rw [if_pos rfl]
      cases mayI a2 <;> rfl
    | true =>
      refine bnd (s31 (by omega) a2) ?_
      cases hm : mayI a2 with
      | false => exact tail
      | true =>
        obtain ⟨m0, m1⟩ := mayI_t hm
        obtain ⟨n0, n1⟩ := mayI_t hm1
        have z2 := itoaB_size m0 m1
        have z1 := itoaB_size n0 n1
        refine bnd (digs n0 n1) ?_
        rw [max64, if_neg (by omega), if_neg (by rw [ByteArray.size_append]; omega)]
        refine bnd (digs m0 m1) ?_
        rw [if_neg (by rw [ByteArray.size_append, ByteArray.size_append]; omega)]
        rfl
  · rw [beq_false_of_ne h7]
    have hwd := word_eq h7
    have hs := head_size a0
    refine bnd (s27 (by omega) a0) ?_
    rw [hwd, seq_dec]
    unfold nameB
    by_cases hh : headB a0 = noS
    · rw [if_pos hh, hw, decide_eq_true hh]; rfl
    · rw [if_neg hh, decide_eq_false hh]
      refine bnd (s31 (by omega) a2) ?_
      cases hm : mayI a2 with
      | false => rfl
      | true =>
        obtain ⟨m0, m1⟩ := mayI_t hm
        have z2 := itoaB_size m0 m1
        refine bnd (s27 (by omega) a0) ?_
        rw [hwd]
        refine bnd (digs m0 m1) ?_
        rw [max64, if_neg (by omega), if_neg h7, if_neg (by decide)]
theorem name_awake : nameB 7 3 12 = { data := #[(102 : UInt8), (97 : UInt8), (114 : UInt8), (45 : UInt8), (51 : UInt8), (45 : UInt8), (49 : UInt8), (50 : UInt8)] } := by
  have h3 : itoaB 3 = { data := #[(51 : UInt8)] } := by
    refine ba_ext ?_
    rw [ba_toList, ba_toList]
    show Lib.itoa ((3 : Nat) : Int) = _
    rw [itoa_nat, Lib.decDigits_one (by decide)]; rfl
  have h12 : itoaB 12 = { data := #[(49 : UInt8), (50 : UInt8)] } := by
    refine ba_ext ?_
    rw [ba_toList, ba_toList]
    show Lib.itoa ((12 : Nat) : Int) = _
    rw [itoa_nat, Lib.decDigits_two (by decide) (by decide)]; rfl
  unfold nameB
  rw [h3, h12]
  rfl
theorem s8 {k : Nat} (hk : 3 ≤ k) : callN B k 8 [] = (some true : Option Bool) := by
  obtain ⟨k, rfl⟩ := Nat.exists_eq_add_of_le' (show 1 ≤ k by omega)
  refine (callS k 8 _).trans ((t8 (callN B k) (lvl B k).2 k).trans ?_)
  refine bnd (s11 (by omega) 7 3 12) ?_
  rw [name_awake, seq_dec, decide_eq_true rfl]
end Go.Eng.Bk
/- Names: prefixes; what digits of a text are. -/
namespace Go.Eng.Bk
open Go Go.Proofs Go.Eng
set_option linter.unusedVariables false
set_option linter.unusedSimpArgs false
set_option maxRecDepth 100000
def prefB (s p : ByteArray) : Bool := decide (p.size ≤ s.size) && decide (s.extract 0 p.size = p)
def restB (s p : ByteArray) : ByteArray := bif prefB s p then s.extract p.size s.size else s
theorem s51 {k : Nat} (hk : 1 ≤ k) (s p : ByteArray) : callN B k 51 [.v .str s, .v .str p] = (some (prefB s p) : Option Bool) := by
  obtain ⟨k, rfl⟩ := Nat.exists_eq_add_of_le' hk
  refine (callS k 51 _).trans ((t51 (callN B k) (lvl B k).2 k s p).trans ?_)
  unfold prefB
  by_cases h : p.size ≤ s.size
  · rw [decide_eq_true (show ((s.size : Int)) ≥ ((p.size : Int)) by omega), decide_eq_true h, if_pos (by omega), seq_dec, Int.toNat_natCast]
    rfl
  · rw [decide_eq_false (show ¬ ((s.size : Int)) ≥ ((p.size : Int)) by omega), decide_eq_false h]
    rfl
theorem s38 {k : Nat} (hk : 2 ≤ k) (s p : ByteArray) : callN B k 38 [.v .str s, .v .str p] = (some (restB s p, prefB s p, ()) : Option (ByteArray × (Bool × Unit))) := by
  obtain ⟨k, rfl⟩ := Nat.exists_eq_add_of_le' (show 1 ≤ k by omega)
  refine (callS k 38 _).trans ((t38 (callN B k) (lvl B k).2 k s p).trans ?_)
  refine bnd (s51 (by omega) s p) ?_
  unfold restB
  cases h : prefB s p with
  | false => rfl
  | true =>
    have h1 : p.size ≤ s.size := by
      unfold prefB at h
      rw [Bool.and_eq_true] at h
      exact of_decide_eq_true h.1
    show (if _ then _ else _) = _
    rw [if_pos (by omega), Int.toNat_natCast]
    rfl
theorem s23 {k : Nat} (hk : 3 ≤ k) (s p : ByteArray) : callN B k 23 [.v .str s, .v .str p] = (some (restB s p, prefB s p, ()) : Option (ByteArray × (Bool × Unit))) := by
  obtain ⟨k, rfl⟩ := Nat.exists_eq_add_of_le' (show 1 ≤ k by omega)
  refine (callS k 23 _).trans ((t23 (callN B k) (lvl B k).2 k s p).trans ?_)
  exact bnd (s38 (by omega) s p) rfl
theorem ext_l (a b : ByteArray) : (a ++ b).extract 0 a.size = a := by
  rw [ByteArray.extract_append]
  simp
theorem ext_r (a b : ByteArray) : (a ++ b).extract a.size (a ++ b).size = b := by
  apply ByteArray.ext
  rw [ByteArray.data_extract, ByteArray.data_append]
  have e1 : a.size = a.data.size := rfl
  have e2 : (a ++ b).size = a.data.size + b.data.size := by rw [ByteArray.size_append]; rfl
  rw [e1, e2]
  rw [← Array.toList_inj]
  simp only [Array.toList_extract, Array.toList_append, List.extract_eq_take_drop]
  rw [List.drop_append_of_le_length (by rw [Array.length_toList]; exact Nat.le_refl _), List.drop_of_length_le (by rw [Array.length_toList]; exact Nat.le_refl _), List.nil_append, List.take_of_length_le (by rw [Array.length_toList]; omega)]
theorem pref_app (p t : ByteArray) : prefB (p ++ t) p = true := by
  unfold prefB
  rw [decide_eq_true (show p.size ≤ (p ++ t).size by rw [ByteArray.size_append]; omega), decide_eq_true (ext_l p t)]
  rfl
theorem rest_app (p t : ByteArray) : restB (p ++ t) p = t := by
  unfold restB
  rw [pref_app, cond_true, ext_r]
theorem pref_split {s p : ByteArray} (h : prefB s p = true) : s = p ++ restB s p := by
  unfold restB
  rw [h, cond_true]
  unfold prefB at h
  rw [Bool.and_eq_true] at h
  have h1 := of_decide_eq_true h.1
  have h2 := of_decide_eq_true h.2
  conv => rhs; arg 1; rw [← h2]
  rw [ByteArray.extract_append_extract]
  simp [Nat.max_eq_right h1]
/-! what digits of a text are -/
theorem byteAt_nat {s : ByteArray} {i : Nat} (h : i < s.data.toList.length) : byteAt s (i : Int) = ((s.data.toList[i]).toNat : Int) := by
  have h' : i < s.size := by
    have e : s.data.toList.length = s.size := Array.length_toList
    omega
  unfold byteAt
  rw [dif_pos (by rw [Int.toNat_natCast]; exact h')]
  simp only [Int.toNat_natCast, Array.getElem_toList]
  rfl
theorem list_size (s : ByteArray) : s.data.toList.length = s.size := Array.length_toList
theorem l28 {call : CallT B} {inl : InlT} (m0 : Nat) (s : ByteArray) (a b : Nat) (hb : b ≤ s.size) (d : Nat) : ∀ (i acc c m : Nat), i + d = b → acc < 10 ^ c → c + d ≤ 16 → d < m → s.size < 4611686018427387904 →
    LP B call inl 28 m [1, 1, 1, 0, 1] (s28_2 s (a : Int) (b : Int) (acc : Int) (i : Int)) (KA B call inl 28 m0 [1, 1, 1, 0, 1] (FI B call inl 28)) =
      (some (match decV acc ((s.data.toList.drop i).take d) with | some n => (n : Int) | none => -1) : Option Int) := by
  induction d with
  | zero =>
    intro i acc c m hd ha hc hm hs
    obtain ⟨m, rfl⟩ : ∃ k, m = k + 1 := ⟨m - 1, by omega⟩
    rw [s28_2_l, bF (by omega), s28_2x5_k]
    rfl
  | succ d ih =>
    intro i acc c m hd ha hc hm hs
    obtain ⟨m, rfl⟩ : ∃ k, m = k + 1 := ⟨m - 1, by omega⟩
    have hi : i < s.data.toList.length := by rw [list_size]; omega
    have hbt := byteAt_nat hi
    have htk : (s.data.toList.drop i).take (d + 1) = s.data.toList[i] :: (s.data.toList.drop (i + 1)).take d := by
      rw [List.drop_eq_getElem_cons hi, List.take_succ_cons]
    have hlt := UInt8.toNat_lt (s.data.toList[i])
    have hpow : (10 : Nat) ^ c ≤ 10 ^ 15 := Nat.pow_le_pow_right (by decide) (by omega)
    have hpow' : (10 : Nat) ^ 15 = 1000000000000000 := by decide
    rw [htk, s28_2_l, bT (by omega), if_pos (by omega), hbt]
    simp only [decV]
    by_cases h1 : (s.data.toList[i]).toNat < 48
    · have hR : (if 48 ≤ (s.data.toList[i]).toNat ∧ (s.data.toList[i]).toNat ≤ 57 then decV (acc * 10 + ((s.data.toList[i]).toNat - 48)) ((s.data.toList.drop (i + 1)).take d) else none) = none := if_neg (by omega)
      rw [hR, decide_eq_true (show ((s.data.toList[i]).toNat : Int) < 48 by omega), show ((true : Bool) == false) = false from rfl, cond_false, s28_2x4_k]
    · rw [decide_eq_false (show ¬ ((s.data.toList[i]).toNat : Int) < 48 by omega)]
      rw [show ((false : Bool) == false) = true from rfl, cond_true, if_pos (by omega)]
      by_cases h2 : (s.data.toList[i]).toNat > 57
      · have hR : (if 48 ≤ (s.data.toList[i]).toNat ∧ (s.data.toList[i]).toNat ≤ 57 then decV (acc * 10 + ((s.data.toList[i]).toNat - 48)) ((s.data.toList.drop (i + 1)).take d) else none) = none := if_neg (by omega)
        rw [hR, decide_eq_true (show ((s.data.toList[i]).toNat : Int) > 57 by omega), cond_true, s28_2x3_k]
      · have hR : (if 48 ≤ (s.data.toList[i]).toNat ∧ (s.data.toList[i]).toNat ≤ 57 then decV (acc * 10 + ((s.data.toList[i]).toNat - 48)) ((s.data.toList.drop (i + 1)).take d) else none) = decV (acc * 10 + ((s.data.toList[i]).toNat - 48)) ((s.data.toList.drop (i + 1)).take d) := if_pos (by omega)
        rw [hR, decide_eq_false (show ¬ ((s.data.toList[i]).toNat : Int) > 57 by omega), cond_false, if_pos (by omega)]
        have e1 : IntKind.u8.wrap (((s.data.toList[i]).toNat : Int) - 48) = (((s.data.toList[i]).toNat - 48 : Nat) : Int) := by rw [wu8]; omega
        rw [e1, w64 (x := (((s.data.toList[i]).toNat - 48 : Nat) : Int)) (by omega) (by omega), w64 (x := (10 : Int) * (acc : Int)) (by omega) (by omega), w64 (x := (10 : Int) * (acc : Int) + (((s.data.toList[i]).toNat - 48 : Nat) : Int)) (by omega) (by omega),
          w64 (x := (i : Int) + 1) (by omega) (by omega)]
        have e2 : (10 : Int) * (acc : Int) + (((s.data.toList[i]).toNat - 48 : Nat) : Int) = ((acc * 10 + ((s.data.toList[i]).toNat - 48) : Nat) : Int) := by omega
        rw [e2, show (i : Int) + 1 = ((i + 1 : Nat) : Int) by omega]
        exact ih (i + 1) _ (c + 1) m (by omega) (by rw [Nat.pow_succ]; omega) (by omega) (by omega) hs
theorem s28 {k : Nat} (hk : 20 ≤ k) (s : ByteArray) (a b : Nat) (hb : b ≤ s.size ∨ b ≤ a) (ha : a < 9223372036854775808) (hs : s.size < 4611686018427387904) : callN B k 28 [.v .str s, .v i64 (a : Int), .v i64 (b : Int)] = (some (numD ((s.data.toList.drop a).take (b - a))) : Option Int) := by
  obtain ⟨k, rfl⟩ := Nat.exists_eq_add_of_le' (show 1 ≤ k by omega)
  refine (callS k 28 _).trans ((t28 (callN B k) (lvl B k).2 k s a b).trans ?_)
  unfold numD
  by_cases h : b ≤ a
  · rw [decide_eq_true (show ((a : Int)) ≥ ((b : Int)) by omega), show b - a = 0 by omega, List.take_zero, if_pos (.inl rfl)]
    rfl
  · have hl : ((s.data.toList.drop a).take (b - a)).length = b - a := by
      rw [List.length_take, List.length_drop, list_size]; omega
    rw [decide_eq_false (show ¬ ((a : Int)) ≥ ((b : Int)) by omega), w64 (x := (b : Int) - (a : Int)) (by omega) (by omega)]
    change @Eq (Option Int) (bif decide ((b : Int) - (a : Int) > 16) then _ else _) _
    by_cases h16 : b - a > 16
    · rw [bT (by omega), if_pos (.inr (by omega))]
    · rw [bF (by omega), if_neg (by
        intro hh
        rcases hh with hh | hh
        · rw [hh] at hl; simp at hl; omega
        · omega)]
      exact l28 k s a b (by omega) (b - a) a 0 0 k (by omega) (by decide) (by omega) (by omega) hs
end Go.Eng.Bk
/- Names: what a name says (the program's reading). -/
namespace Go.Eng.Bk
open Go Go.Proofs Go.Eng
set_option linter.unusedVariables false
set_option linter.unusedSimpArgs false
set_option maxRecDepth 100000
abbrev R3 : Type := Int × (Int × (Int × Unit))
def inner (s : ByteArray) (k : Int) : Option R3 :=
  if prefB s (headB k) = false then none else
  if headB k = noS then none else
  if k = 7 then (if (cutB (restB s (headB k)) dash).2.2.1 = true ∧ (numB (cutB (restB s (headB k)) dash).1).2.1 = true ∧ (numB (cutB (restB s (headB k)) dash).2.1).2.1 = true
    then some (k, (numB (cutB (restB s (headB k)) dash).1).1, (numB (cutB (restB s (headB k)) dash).2.1).1, ()) else some (0, 0, 0, ()))
  else (if (numB (restB s (headB k))).2.1 = true then some (k, 0, (numB (restB s (headB k))).1, ()) else some (0, 0, 0, ()))
def stepR (s : ByteArray) (k : Int) : Option R3 := if s = noS then none else if s = wholeB k then some (k, 0, 0, ()) else inner s k
def readL (s : ByteArray) : Nat → Int → R3
  | 0, _ => (0, 0, 0, ())
  | d + 1, k => match stepR s k with
    | some r => r
    | none => readL s d (k + 1)
theorem mk_size (l : List UInt8) : (ByteArray.mk l.toArray).size = l.length := by simp [ByteArray.size]
theorem cut_sizes (s p : ByteArray) : (cutB s p).1.size ≤ s.size ∧ (cutB s p).2.1.size ≤ s.size := by
  have e := list_size s
  unfold cutB
  simp only [mk_size]
  unfold Lib.cut
  split
  · simp only [List.length_take, List.length_drop]; omega
  · simp only [List.length_nil]; omega
theorem rest_size (s p : ByteArray) : (restB s p).size ≤ s.size := by
  unfold restB
  cases prefB s p with
  | false => exact Nat.le_refl _
  | true => rw [cond_true, ByteArray.size_extract]; omega
theorem pref_no {k : Int} (h : prefB noS (headB k) = true) : headB k = noS := by
  unfold prefB at h
  rw [Bool.and_eq_true] at h
  have h1 := of_decide_eq_true h.1
  have e : noS.size = 0 := rfl
  apply ByteArray.ext
  exact Array.eq_empty_of_size_eq_zero (by have : (headB k).size = (headB k).data.size := rfl; omega)
theorem l9_in {q : Nat} {inl : InlT} (hq : 4 ≤ q) (m0 m : Nat) (s : ByteArray) (k : Int) (v28 : ByteArray) (hs : s.size < 4294967281) (o : Option R3) (ho : LP B (callN B q) inl 9 m [1, 1, 0, 1] (s9_27 s (IntKind.i64.wrap (k + (1 : Int)))) (KA B (callN B q) inl 9 m0 [1, 1, 0, 1] (FI B (callN B q) inl 9)) = o) :
    ((callN B q 24 [(.v (.int .i64) (k))] : Option ByteArray).bind fun (v30 : ByteArray) => (callN B q 23 [(.v .str (s)), (.v .str (v30))] : Option (ByteArray × Bool × Unit)).bind fun (v31 : (ByteArray × Bool × Unit)) => bif (!v31.snd.fst) == Bool.false then ((callN B q 24 [(.v (.int .i64) (k))] : Option ByteArray).bind fun (v32 : ByteArray) => bif ByteArray.toList v32 == noS.toList then (LP B (callN B q) inl 9 m [1, 1, 0, 1] (s9_27 s (IntKind.i64.wrap (k + (1 : Int)))) (KA B (callN B q) inl 9 m0 [1, 1, 0, 1] (FI B (callN B q) inl 9))) else (bif k == (7 : Int) then ((callN B q 25 [(.v .str (v31.fst)), (.v .str (dash))] : Option (ByteArray × ByteArray × Bool × Unit)).bind fun (v33 : (ByteArray × ByteArray × Bool × Unit)) => bif v33.snd.snd.fst then ((callN B q 26 [(.v .str (v33.fst))] : Option (Int × Bool × Unit)).bind fun (v34 : (Int × Bool × Unit)) => (callN B q 26 [(.v .str (v33.snd.fst))] : Option (Int × Bool × Unit)).bind fun (v35 : (Int × Bool × Unit)) => bif (!v34.snd.fst) == Bool.false then (bif !v35.snd.fst then (KA B (callN B q) inl 9 m0 [1, 1, 0, 1] (FI B (callN B q) inl 9) (.exit 0) (s9_27x36 s k v28 v30 v31 v32 v33 v34 v35)) else (KA B (callN B q) inl 9 m0 [1, 1, 0, 1] (FI B (callN B q) inl 9) .ret (s9_27x37 s k v28 v30 v31 v32 v33 v34 v35))) else (KA B (callN B q) inl 9 m0 [1, 1, 0, 1] (FI B (callN B q) inl 9) (.exit 0) (s9_27x38 s k v28 v30 v31 v32 v33 v34 v35))) else ((callN B q 26 [(.v .str (v33.snd.fst))] : Option (Int × Bool × Unit)).bind fun (v39 : (Int × Bool × Unit)) => bif (!v33.snd.snd.fst) == Bool.false then (bif !v39.snd.fst then (KA B (callN B q) inl 9 m0 [1, 1, 0, 1] (FI B (callN B q) inl 9) (.exit 0) (s9_27x40 s k v28 v30 v31 v32 v33 v39)) else (KA B (callN B q) inl 9 m0 [1, 1, 0, 1] (FI B (callN B q) inl 9) .ret (s9_27x41 s k v28 v30 v31 v32 v33 v39))) else (KA B (callN B q) inl 9 m0 [1, 1, 0, 1] (FI B (callN B q) inl 9) (.exit 0) (s9_27x42 s k v28 v30 v31 v32 v33 v39)))) else ((callN B q 26 [(.v .str (v31.fst))] : Option (Int × Bool × Unit)).bind fun (v43 : (Int × Bool × Unit)) => bif !v43.snd.fst then (KA B (callN B q) inl 9 m0 [1, 1, 0, 1] (FI B (callN B q) inl 9) (.exit 0) (s9_27x44 s k v28 v30 v31 v32 v43)) else (KA B (callN B q) inl 9 m0 [1, 1, 0, 1] (FI B (callN B q) inl 9) .ret (s9_27x45 s k v28 v30 v31 v32 v43))))) else (LP B (callN B q) inl 9 m [1, 1, 0, 1] (s9_27 s (IntKind.i64.wrap (k + (1 : Int)))) (KA B (callN B q) inl 9 m0 [1, 1, 0, 1] (FI B (callN B q) inl 9)))) =
      (match inner s k with | some r => some r | none => o : Option R3) := by
  have hr := rest_size s (headB k)
  have hc := cut_sizes (restB s (headB k)) dash
  have z25 : (restB s (headB k)).size < 4294967281 := by omega
  have z26 : (restB s (headB k)).size ≤ 281474976710656 := by omega
  have za : (cutB (restB s (headB k)) dash).1.size ≤ 281474976710656 := by omega
  have zb : (cutB (restB s (headB k)) dash).2.1.size ≤ 281474976710656 := by omega
  refine bnd (s24 (by omega) k) ?_
  refine bnd (s23 (by omega) s (headB k)) ?_
  unfold inner
  cases hp : prefB s (headB k) with
  | false =>
    rw [if_pos rfl]
    exact ho
  | true =>
    rw [if_neg (by decide)]
    change @Eq (Option R3) (Option.bind (callN B q 24 [(.v (.int .i64) (k))] : Option ByteArray) _) _
    refine bnd (s24 (by omega) k) ?_
    rw [seq_dec]
    by_cases hh : headB k = noS
    · rw [bT hh, if_pos hh]
      exact ho
    · rw [bF hh, if_neg hh]
      by_cases h7 : k = 7
      · rw [if_pos h7, show (k == (7 : Int)) = true from beq_iff_eq.2 h7, cond_true]
        refine bnd (s25 (by omega) z25) ?_
        cases hf : (cutB (restB s (headB k)) dash).2.2.1 with
        | false =>
          change @Eq (Option R3) (Option.bind (callN B q 26 [(.v .str (cutB (restB s (headB k)) dash).2.1)] : Option (Int × (Bool × Unit))) _) _
          refine bnd (s26 (by omega) zb) ?_
          rw [if_neg (fun h => by cases h.1)]
          exact s9_27x42_k (callN B q) inl m0 s k v28 (headB k) (restB s (headB k), true, ()) (headB k) (cutB (restB s (headB k)) dash) (numB (cutB (restB s (headB k)) dash).2.1)
        | true =>
          change @Eq (Option R3) (Option.bind (callN B q 26 [(.v .str (cutB (restB s (headB k)) dash).1)] : Option (Int × (Bool × Unit))) _) _
          refine bnd (s26 (by omega) za) ?_
          refine bnd (s26 (by omega) zb) ?_
          cases h1 : (numB (cutB (restB s (headB k)) dash).1).2.1 with
          | false =>
            rw [if_neg (fun h => by cases h.2.1)]
            exact s9_27x38_k (callN B q) inl m0 s k v28 (headB k) (restB s (headB k), true, ()) (headB k) (cutB (restB s (headB k)) dash) (numB (cutB (restB s (headB k)) dash).1) (numB (cutB (restB s (headB k)) dash).2.1)
          | true =>
            cases h2 : (numB (cutB (restB s (headB k)) dash).2.1).2.1 with
            | false =>
              rw [if_neg (fun h => by cases h.2.2)]
              exact s9_27x36_k (callN B q) inl m0 s k v28 (headB k) (restB s (headB k), true, ()) (headB k) (cutB (restB s (headB k)) dash) (numB (cutB (restB s (headB k)) dash).1) (numB (cutB (restB s (headB k)) dash).2.1)
            | true =>
              rw [if_pos ⟨rfl, rfl, rfl⟩]
              exact s9_27x37_k (callN B q) inl m0 s k v28 (headB k) (restB s (headB k), true, ()) (headB k) (cutB (restB s (headB k)) dash) (numB (cutB (restB s (headB k)) dash).1) (numB (cutB (restB s (headB k)) dash).2.1)
      · rw [if_neg h7, show (k == (7 : Int)) = false from beq_false_of_ne h7, cond_false]
        refine bnd (s26 (by omega) z26) ?_
        cases h1 : (numB (restB s (headB k))).2.1 with
        | false =>
          rw [if_neg (by decide)]
          exact s9_27x44_k (callN B q) inl m0 s k v28 (headB k) (restB s (headB k), true, ()) (headB k) (numB (restB s (headB k)))
        | true =>
          rw [if_pos rfl]
          exact s9_27x45_k (callN B q) inl m0 s k v28 (headB k) (restB s (headB k), true, ()) (headB k) (numB (restB s (headB k)))
theorem l9 {q : Nat} {inl : InlT} (hq : 4 ≤ q) (m0 : Nat) (s : ByteArray) (hs : s.size < 4294967281) (d : Nat) : ∀ (k : Int) (m : Nat), 1 ≤ k → k + d = 9 → d < m →
    LP B (callN B q) inl 9 m [1, 1, 0, 1] (s9_27 s k) (KA B (callN B q) inl 9 m0 [1, 1, 0, 1] (FI B (callN B q) inl 9)) = (some (readL s d k) : Option R3) := by
  induction d with
  | zero =>
    intro k m h1 hd hm
    obtain ⟨m, rfl⟩ : ∃ k, m = k + 1 := ⟨m - 1, by omega⟩
    rw [s9_27_l, bF (by omega), s9_27x62_k]
    rfl
  | succ d ih =>
    intro k m h1 hd hm
    obtain ⟨m, rfl⟩ : ∃ k, m = k + 1 := ⟨m - 1, by omega⟩
    have hi := ih (k + 1) m (by omega) (by omega) (by omega)
    rw [← w64 (x := k + 1) (by omega) (by omega)] at hi
    have hin := fun v => l9_in (q := q) (inl := inl) hq m0 m s k v hs _ hi
    have e : (some (readL s (d + 1) k) : Option R3) = match stepR s k with | some r => some r | none => some (readL s d (IntKind.i64.wrap (k + 1))) := by
      rw [w64 (x := k + 1) (by omega) (by omega)]
      simp only [readL]
      cases stepR s k <;> rfl
    rw [e, s9_27_l, bT (by omega)]
    unfold stepR
    by_cases h0 : s = noS
    · rw [if_pos h0]
      have hb : (!ByteArray.toList s == noS.toList) = false := by rw [seq_dec, decide_eq_true h0]; rfl
      rw [hb, show ((false : Bool) == true) = false from rfl, cond_false]
      refine bnd (s24 (by omega) k) ?_
      refine bnd (s23 (by omega) s (headB k)) ?_
      cases hp : prefB s (headB k) with
      | false => exact hi
      | true =>
        change @Eq (Option R3) (Option.bind (callN B q 24 [(.v (.int .i64) (k))] : Option ByteArray) _) _
        refine bnd (s24 (by omega) k) ?_
        rw [seq_dec, bT (pref_no (h0 ▸ hp))]
        exact hi
    · rw [if_neg h0]
      have hb : (!ByteArray.toList s == noS.toList) = true := by rw [seq_dec, decide_eq_false h0]; rfl
      rw [hb, show ((true : Bool) == true) = true from rfl, cond_true]
      refine bnd (s22 (by omega) k) ?_
      rw [seq_dec]
      by_cases hw : s = wholeB k
      · rw [bT hw, if_pos hw]
        exact s9_27x29_k (callN B q) inl m0 s k _
      · rw [bF hw, if_neg hw]
        exact hin _
def readF (s : ByteArray) : R3 := readL s 8 1
theorem s9 {k : Nat} (hk : 20 ≤ k) (s : ByteArray) (hs : s.size < 4294967281) : callN B k 9 [.v .str s] = (some (readF s) : Option R3) := by
  obtain ⟨k, rfl⟩ := Nat.exists_eq_add_of_le' (show 1 ≤ k by omega)
  refine (callS k 9 _).trans ((t9 (callN B k) (lvl B k).2 k s).trans ?_)
  exact l9 (by omega) k s hs 8 1 k (by omega) (by omega) (by omega)
end Go.Eng.Bk
/- Names: what a name says (the document's reading). -/
namespace Go.Eng.Bk
open Go Go.Proofs Go.Eng
set_option linter.unusedVariables false
set_option linter.unusedSimpArgs false
set_option maxRecDepth 100000
/-- Digits of a text from a place to another one. -/
def numP (s : ByteArray) (a b : Nat) : Int := numD ((s.data.toList.drop a).take (b - a))
def dashF (s : ByteArray) : Nat → Nat → Nat
  | 0, i => i
  | d + 1, i => if i < s.size ∧ byteAt s (i : Int) ≠ 45 then dashF s d (i + 1) else i
def try3 (s : ByteArray) (k e n : Int) : Option R3 := if s = noS then none else if e < 0 then none else if n < 0 then none else if nameB k e n = s then some (k, e, n, ()) else none
def stepD (s : ByteArray) (k : Int) : Option R3 :=
  if k = 7 then try3 s k (numP s 4 (dashF s s.size 4)) (numP s (dashF s s.size 4 + 1) s.size)
  else if wordB k = noS then try3 s k 0 0 else try3 s k 0 (numP s (wordB k).size s.size)
def docL (s : ByteArray) : Nat → Int → R3
  | 0, _ => (0, 0, 0, ())
  | d + 1, k => match stepD s k with
    | some r => r
    | none => docL s d (k + 1)
def orE (o : Option R3) (x : Option R3) : Option R3 := match o with
  | some r => some r
  | none => x
/-- The end of a round: is it that name? -/
theorem tail10 {s : ByteArray} {k e n : Int} {q : Nat} (hq : 25 ≤ q) {o : Option R3} {X : ByteArray → Option R3} (hX : ∀ v, X v = some (k, e, n, ())) :
    (bif (!ByteArray.toList s == noS.toList) == Bool.true then (bif Decidable.decide (e ≥ (0 : Int)) == Bool.true then (bif Decidable.decide (n ≥ (0 : Int)) == Bool.true then ((callN B q 12 [(.v (.int .i64) (k)), (.v (.int .i64) (e)), (.v (.int .i64) (n))] : Option ByteArray).bind fun (v24 : ByteArray) => bif ByteArray.toList v24 == ByteArray.toList s then (X v24) else o) else o) else o) else o) = orE (try3 s k e n) o := by
  unfold try3
  rw [seq_dec]
  by_cases h0 : s = noS
  · rw [decide_eq_true h0, if_pos h0]; rfl
  rw [decide_eq_false h0, if_neg h0]
  by_cases h1 : e < 0
  · rw [decide_eq_false (show ¬ e ≥ 0 by omega), if_pos h1]; rfl
  rw [decide_eq_true (show e ≥ 0 by omega), if_neg h1]
  by_cases h2 : n < 0
  · rw [decide_eq_false (show ¬ n ≥ 0 by omega), if_pos h2]; rfl
  rw [decide_eq_true (show n ≥ 0 by omega), if_neg h2]
  change @Eq (Option R3) (Option.bind _ _) _
  refine bnd (s12 hq k e n) ?_
  rw [seq_dec]
  by_cases h3 : nameB k e n = s
  · rw [bT h3, if_pos h3, hX]; rfl
  · rw [bF h3, if_neg h3]; rfl
theorem l10d {q : Nat} {inl : InlT} (hq : 25 ≤ q) (m0 m : Nat) (s : ByteArray) (v17 : ByteArray) (hs : s.size < 4611686018427387900) (o : Option R3)
    (ho : LP B (callN B q) inl 10 m [1, 0, 1] (s10_16 s (IntKind.i64.wrap ((7 : Int) + (1 : Int)))) (KA B (callN B q) inl 10 m0 [1, 0, 1] (FI B (callN B q) inl 10)) = o) (d : Nat) :
    ∀ (i mm : Nat), 4 ≤ i → s.size ≤ i + d → d < mm → (i ≤ s.size ∨ i = 4) →
    LP B (callN B q) inl 10 mm [1, 0, 1, 0, 1, 0, 1, 1, 0, 1, 0, 1, 0] (s10_19 s 7 v17 (i : Int)) (KN B (callN B q) inl 10 m [1, 0, 1] [1, 0, 1, 1, 0, 1, 0, 1, 0] (KA B (callN B q) inl 10 m0 [1, 0, 1] (FI B (callN B q) inl 10))) =
      orE (try3 s 7 (numP s 4 (dashF s d i)) (numP s (dashF s d i + 1) s.size)) o := by
  have fin : ∀ i : Nat, 4 ≤ i → (i ≤ s.size ∨ i = 4) → ∀ X : Int → Int → ByteArray → Option R3, (∀ a b v, X a b v = some (7, a, b, ())) →
      ((callN B q 28 [(.v .str (s)), (.v (.int .i64) ((4 : Int))), (.v (.int .i64) ((i : Int)))] : Option Int).bind fun (v22 : Int) => (callN B q 28 [(.v .str (s)), (.v (.int .i64) (IntKind.i64.wrap ((i : Int) + (1 : Int)))), (.v (.int .i64) ((↑(ByteArray.size s) : Int)))] : Option Int).bind fun (v23 : Int) => bif (!ByteArray.toList s == noS.toList) == Bool.true then (bif Decidable.decide (v22 ≥ (0 : Int)) == Bool.true then (bif Decidable.decide (v23 ≥ (0 : Int)) == Bool.true then ((callN B q 12 [(.v (.int .i64) ((7 : Int))), (.v (.int .i64) (v22)), (.v (.int .i64) (v23))] : Option ByteArray).bind fun (v24 : ByteArray) => bif ByteArray.toList v24 == ByteArray.toList s then (X v22 v23 v24) else o) else o) else o) else o) =
      orE (try3 s 7 (numP s 4 i) (numP s (i + 1) s.size)) o := by
    intro i h4 hi X hX
    rw [w64 (x := (i : Int) + 1) (by omega) (by omega)]
    refine bnd (s28 (by omega) s 4 i (by omega) (by omega) (by omega)) ?_
    refine bnd (s28 (by omega) s (i + 1) s.size (by omega) (by omega) (by omega)) ?_
    exact tail10 hq (hX _ _)
  induction d with
  | zero =>
    intro i mm h4 hd hm hi
    obtain ⟨mm, rfl⟩ : ∃ k, mm = k + 1 := ⟨mm - 1, by omega⟩
    rw [s10_19_l, decide_eq_false (show ¬ ((i : Int)) < (s.size : Int) by omega)]
    refine (s10_19x21_k (callN B q) inl m _ s 7 v17 (i : Int)).trans ?_
    rw [ho]
    exact fin i h4 hi (fun a b v => KA B (callN B q) inl 10 m0 [1, 0, 1] (FI B (callN B q) inl 10) .ret (s10_16x29 s 7 v17 i a b v)) (fun a b v => s10_16x29_k (callN B q) inl m0 s 7 v17 i a b v)
  | succ d ih =>
    intro i mm h4 hd hm hi
    obtain ⟨mm, rfl⟩ : ∃ k, mm = k + 1 := ⟨mm - 1, by omega⟩
    rw [s10_19_l]
    simp only [dashF]
    by_cases h1 : i < s.size
    · rw [decide_eq_true (show ((i : Int)) < (s.size : Int) by omega), show ((true : Bool) == true) = true from rfl, cond_true]
      refine (if_pos (⟨by omega, by omega⟩ : (0 : Int) ≤ (i : Int) ∧ (i : Int) < (s.size : Int))).trans ?_
      by_cases h2 : byteAt s (i : Int) = 45
      · rw [if_neg (fun h => h.2 h2), show (byteAt s (i : Int) != (45 : Int)) = false by rw [h2]; rfl, cond_false]
        refine (s10_19x20_k (callN B q) inl m _ s 7 v17 (i : Int)).trans ?_
        rw [ho]
        exact fin i h4 hi (fun a b v => KA B (callN B q) inl 10 m0 [1, 0, 1] (FI B (callN B q) inl 10) .ret (s10_16x25 s 7 v17 i a b v)) (fun a b v => s10_16x25_k (callN B q) inl m0 s 7 v17 i a b v)
      · rw [if_pos ⟨h1, h2⟩, show (byteAt s (i : Int) != (45 : Int)) = true from bne_iff_ne.2 h2, cond_true, w64 (x := (i : Int) + 1) (by omega) (by omega), show (i : Int) + 1 = ((i + 1 : Nat) : Int) by omega]
        exact ih (i + 1) mm (by omega) (by omega) (by omega) (by omega)
    · have hR : (if i < s.size ∧ byteAt s (i : Int) ≠ 45 then dashF s d (i + 1) else i) = i := if_neg fun h => h1 h.1
      rw [hR, decide_eq_false (show ¬ ((i : Int)) < (s.size : Int) by omega)]
      refine (s10_19x21_k (callN B q) inl m _ s 7 v17 (i : Int)).trans ?_
      rw [ho]
      exact fin i h4 hi (fun a b v => KA B (callN B q) inl 10 m0 [1, 0, 1] (FI B (callN B q) inl 10) .ret (s10_16x29 s 7 v17 i a b v)) (fun a b v => s10_16x29_k (callN B q) inl m0 s 7 v17 i a b v)
theorem l10 {q : Nat} {inl : InlT} (hq : 25 ≤ q) (m0 : Nat) (s : ByteArray) (hs : s.size < 4611686018427387900) (d : Nat) : ∀ (k : Int) (m : Nat), 1 ≤ k → k + d = 9 → d + s.size < m →
    LP B (callN B q) inl 10 m [1, 0, 1] (s10_16 s k) (KA B (callN B q) inl 10 m0 [1, 0, 1] (FI B (callN B q) inl 10)) = (some (docL s d k) : Option R3) := by
  induction d with
  | zero =>
    intro k m h1 hd hm
    obtain ⟨m, rfl⟩ : ∃ k, m = k + 1 := ⟨m - 1, by omega⟩
    rw [s10_16_l, bF (by omega), s10_16x35_k]
    rfl
  | succ d ih =>
    intro k m h1 hd hm
    obtain ⟨m, rfl⟩ : ∃ k, m = k + 1 := ⟨m - 1, by omega⟩
    have hi := ih (k + 1) m (by omega) (by omega) (by omega)
    rw [← w64 (x := k + 1) (by omega) (by omega)] at hi
    have e : (some (docL s (d + 1) k) : Option R3) = orE (stepD s k) (some (docL s d (IntKind.i64.wrap (k + 1)))) := by
      rw [w64 (x := k + 1) (by omega) (by omega)]
      simp only [docL]
      cases stepD s k <;> rfl
    rw [e, s10_16_l, bT (by omega)]
    unfold stepD
    refine bnd (s27 (by omega) k) ?_
    by_cases h7 : k = 7
    · subst h7
      rw [if_pos rfl, show ((7 : Int) == (7 : Int)) = true from rfl, cond_true]
      exact l10d hq m0 m s _ hs _ hi s.size 4 m (by omega) (by omega) (by omega) (by omega)
    · rw [if_neg h7, show (k == (7 : Int)) = false from beq_false_of_ne h7, cond_false, seq_dec]
      by_cases hw : wordB k = noS
      · rw [decide_eq_true hw, if_pos hw, hi]
        change @Eq (Option R3) _ _
        exact tail10 (e := 0) (n := 0) hq (X := fun v => KA B (callN B q) inl 10 m0 [1, 0, 1] (FI B (callN B q) inl 10) .ret (s10_16x34 s k (wordB k) v)) (fun v => s10_16x34_k (callN B q) inl m0 s k (wordB k) v)
      · rw [decide_eq_false hw, if_neg hw, hi]
        change @Eq (Option R3) (Option.bind (callN B q 28 _ : Option Int) _) _
        have hsz : (wordB k).size ≤ 6 := by rw [word_eq h7]; exact head_size k
        refine bnd (s28 (by omega) s (wordB k).size s.size (by omega) (by omega) (by omega)) ?_
        exact tail10 (e := 0) hq (X := fun v => KA B (callN B q) inl 10 m0 [1, 0, 1] (FI B (callN B q) inl 10) .ret (s10_16x32 s k (wordB k) _ v)) (fun v => s10_16x32_k (callN B q) inl m0 s k (wordB k) _ v)
def docF (s : ByteArray) : R3 := docL s 8 1
theorem s10 {k : Nat} (hk : 1000 ≤ k) (s : ByteArray) (hs : s.size < 400) : callN B k 10 [.v .str s] = (some (docF s) : Option R3) := by
  obtain ⟨k, rfl⟩ := Nat.exists_eq_add_of_le' (show 1 ≤ k by omega)
  refine (callS k 10 _).trans ((t10 (callN B k) (lvl B k).2 k s).trans ?_)
  exact l10 (by omega) k s (by omega) 8 1 k (by omega) (by omega) (by omega)
end Go.Eng.Bk
/- Names: both readings are one. -/
namespace Go.Eng.Bk
open Go Go.Proofs Go.Eng
set_option linter.unusedVariables false
set_option linter.unusedSimpArgs false
set_option maxRecDepth 100000
theorem readL_none {s : ByteArray} : ∀ (d : Nat) (k : Int), (∀ j, k ≤ j → j < k + d → stepR s j = none) → readL s d k = (0, 0, 0, ())
  | 0, _, _ => rfl
  | d + 1, k, h => by
    simp only [readL]
    rw [h k (by omega) (by omega)]
    exact readL_none d (k + 1) fun j h1 h2 => h j (by omega) (by omega)
theorem docL_none {s : ByteArray} : ∀ (d : Nat) (k : Int), (∀ j, k ≤ j → j < k + d → stepD s j = none) → docL s d k = (0, 0, 0, ())
  | 0, _, _ => rfl
  | d + 1, k, h => by
    simp only [docL]
    rw [h k (by omega) (by omega)]
    exact docL_none d (k + 1) fun j h1 h2 => h j (by omega) (by omega)
theorem readL_at {s : ByteArray} {k0 : Int} (h : ∀ j, j ≠ k0 → 1 ≤ j → j ≤ 8 → stepR s j = none) : ∀ (d : Nat) (k : Int), 1 ≤ k → k ≤ k0 → k0 < k + d → k + d = 9 → readL s d k = (match stepR s k0 with | some r => r | none => (0, 0, 0, ()))
  | 0, k, h1, h2, h3, h4 => by omega
  | d + 1, k, h1, h2, h3, h4 => by
    simp only [readL]
    by_cases hk : k = k0
    · subst hk
      cases stepR s k with
      | some r => rfl
      | none => exact readL_none d (k + 1) fun j h5 h6 => h j (by omega) (by omega) (by omega)
    · rw [h k hk (by omega) (by omega)]
      exact readL_at h d (k + 1) (by omega) (by omega) (by omega) (by omega)
theorem docL_at {s : ByteArray} {k0 : Int} (h : ∀ j, j ≠ k0 → 1 ≤ j → j ≤ 8 → stepD s j = none) : ∀ (d : Nat) (k : Int), 1 ≤ k → k ≤ k0 → k0 < k + d → k + d = 9 → docL s d k = (match stepD s k0 with | some r => r | none => (0, 0, 0, ()))
  | 0, k, h1, h2, h3, h4 => by omega
  | d + 1, k, h1, h2, h3, h4 => by
    simp only [docL]
    by_cases hk : k = k0
    · subst hk
      cases stepD s k with
      | some r => rfl
      | none => exact docL_none d (k + 1) fun j h5 h6 => h j (by omega) (by omega) (by omega)
    · rw [h k hk (by omega) (by omega)]
      exact docL_at h d (k + 1) (by omega) (by omega) (by omega) (by omega)
theorem try3_none {s : ByteArray} {k e n : Int} (h : s ≠ noS → 0 ≤ e → 0 ≤ n → nameB k e n ≠ s) : try3 s k e n = none := by
  unfold try3
  by_cases h0 : s = noS
  · rw [if_pos h0]
  rw [if_neg h0]
  by_cases h1 : e < 0
  · rw [if_pos h1]
  rw [if_neg h1]
  by_cases h2 : n < 0
  · rw [if_pos h2]
  rw [if_neg h2, if_neg (h h0 (by omega) (by omega))]
theorem try3_some {s : ByteArray} {k e n : Int} (h0 : s ≠ noS) (h1 : 0 ≤ e) (h2 : 0 ≤ n) (h3 : nameB k e n = s) : try3 s k e n = some (k, e, n, ()) := by
  unfold try3
  rw [if_neg h0, if_neg (by omega), if_neg (by omega), if_pos h3]
/-- A name that says something begins as its kind's do. -/
theorem name_pref {s : ByteArray} {k e n : Int} (hs : s ≠ noS) (h : nameB k e n = s) : (headB k = noS ∧ wholeB k = s) ∨ (headB k ≠ noS ∧ mayI n = true ∧ ((k = 7 ∧ mayI e = true ∧ headB k ++ (itoaB e ++ (dash ++ itoaB n)) = s) ∨ (k ≠ 7 ∧ headB k ++ itoaB n = s))) := by
  unfold nameB at h
  by_cases hh : headB k = noS
  · rw [if_pos hh] at h; exact .inl ⟨hh, h⟩
  · rw [if_neg hh] at h
    cases hm : mayI n with
    | false => rw [hm, if_pos rfl] at h; exact absurd h.symm hs
    | true =>
      rw [hm, if_neg (by decide)] at h
      refine .inr ⟨hh, rfl, ?_⟩
      by_cases h7 : k = 7
      · rw [if_pos h7] at h
        cases hm1 : mayI e with
        | false => rw [hm1, if_pos rfl] at h; exact absurd h.symm hs
        | true => 
          rw [hm1, if_neg (by decide)] at h
          refine .inl ⟨h7, rfl, ?_⟩
          rw [← h, ByteArray.append_assoc, ByteArray.append_assoc]
      · rw [if_neg h7] at h; exact .inr ⟨h7, h⟩
theorem stepR_none {s : ByteArray} {k : Int} (hw : s ≠ noS → s ≠ wholeB k) (hp : headB k ≠ noS → prefB s (headB k) = false) : stepR s k = none := by
  unfold stepR
  by_cases h0 : s = noS
  · rw [if_pos h0]
  rw [if_neg h0, if_neg (hw h0)]
  unfold inner
  by_cases hh : headB k = noS
  · cases prefB s (headB k) with
    | false => rw [if_pos rfl]
    | true => rw [if_neg (by decide), if_pos hh]
  · rw [if_pos (hp hh)]
theorem stepD_none {s : ByteArray} {k : Int} (hw : s ≠ noS → s ≠ wholeB k) (hp : headB k ≠ noS → prefB s (headB k) = false) : stepD s k = none := by
  have key : ∀ e n, try3 s k e n = none := fun e n => try3_none fun hs _ _ h => by
    rcases name_pref hs h with ⟨_, h1⟩ | ⟨hh, _, ⟨_, _, h1⟩ | ⟨_, h1⟩⟩
    · exact hw hs h1.symm
    · have := hp hh; rw [← h1, pref_app] at this; cases this
    · have := hp hh; rw [← h1, pref_app] at this; cases this
  unfold stepD
  split
  · exact key _ _
  · split
    · exact key _ _
    · exact key _ _
theorem app_inj {a b c : ByteArray} (h : a ++ b = a ++ c) : b = c := by
  refine ba_ext ?_
  have := congrArg (fun x : ByteArray => x.data.toList) h
  simp only [ba_app] at this
  rw [ba_toList, ba_toList]
  exact List.append_cancel_left this
theorem drop_app (p t : ByteArray) : ((p ++ t).data.toList.drop p.size).take ((p ++ t).size - p.size) = t.data.toList := by
  rw [ba_app, List.drop_append_of_le_length (by rw [list_size]; exact Nat.le_refl _), List.drop_of_length_le (by rw [list_size]; exact Nat.le_refl _), List.nil_append, List.take_of_length_le (by rw [list_size, ByteArray.size_append]; omega)]
theorem at_plain {k0 : Int} {t : ByteArray} (h7 : k0 ≠ 7) (hh : headB k0 ≠ noS) (hw : headB k0 ++ t ≠ wholeB k0) (hne : headB k0 ++ t ≠ noS) :
    (match stepR (headB k0 ++ t) k0 with | some r => r | none => (0, 0, 0, ())) = (match stepD (headB k0 ++ t) k0 with | some r => r | none => ((0, 0, 0, ()) : R3)) := by
  have hR : stepR (headB k0 ++ t) k0 = (if (numB t).2.1 = true then some (k0, 0, (numB t).1, ()) else some (0, 0, 0, ())) := by
    unfold stepR inner
    rw [if_neg hne, if_neg hw, pref_app, if_neg (by decide), if_neg hh, if_neg h7, rest_app]
  have hD : stepD (headB k0 ++ t) k0 = try3 (headB k0 ++ t) k0 0 (numD t.data.toList) := by
    unfold stepD numP
    rw [if_neg h7, word_eq h7, if_neg hh, drop_app]
  rw [hR, hD]
  by_cases hc : (numB t).2.1 = true
  · have hcan := canon_numB hc
    rw [if_pos hc, numD_canon hcan, try3_some hne (Int.le_refl _) hcan.1 ?_]
    unfold nameB
    rw [if_neg hh, show mayI (numB t).1 = true from decide_eq_true ⟨hcan.1, hcan.2.1⟩, if_neg (by decide), if_neg h7, hcan.2.2]
  · rw [if_neg hc, try3_none]
    intro hs _ hn h
    rcases name_pref hs h with ⟨h1, _⟩ | ⟨_, hm, ⟨h1, _⟩ | ⟨_, h1⟩⟩
    · exact hh h1
    · exact h7 h1
    · obtain ⟨m0, m1⟩ := mayI_t hm
      have hcan : Canon t (numD t.data.toList) := ⟨m0, m1, app_inj h1⟩
      exact hc (by rw [numB_canon hcan])
end Go.Eng.Bk
/- Names: both readings are one (far names; the end). -/
namespace Go.Eng.Bk
open Go Go.Proofs Go.Eng
set_option linter.unusedVariables false
set_option linter.unusedSimpArgs false
set_option maxRecDepth 100000
theorem occ45 (t : List UInt8) (j : Nat) : Lib.occAt t [45] j = true ↔ t[j]? = some 45 := by
  unfold Lib.occAt
  have : t[j]? = (t.drop j)[0]? := by rw [List.getElem?_drop]; simp
  rw [this]
  cases t.drop j with
  | nil => simp
  | cons c r =>
    have e : List.isPrefixOf [45] (c :: r) = ((45 : UInt8) == c) := by simp [List.isPrefixOf]
    rw [e]
    exact ⟨fun h => by rw [← beq_iff_eq.1 h]; rfl, fun h => by rw [Option.some.inj h]; rfl⟩
theorem mk_list (l : List UInt8) : (ByteArray.mk l.toArray).data.toList = l := rfl
theorem mk_ba (t : ByteArray) : ByteArray.mk t.data.toList.toArray = t := by cases t; rfl
theorem cut_dash (t : ByteArray) : (∃ a b : List UInt8, t.data.toList = a ++ 45 :: b ∧ (45 : UInt8) ∉ a ∧ cutB t dash = (⟨a.toArray⟩, ⟨b.toArray⟩, true, ())) ∨ ((45 : UInt8) ∉ t.data.toList ∧ (cutB t dash).2.2.1 = false) := by
  have hd : dash.data.toList = [45] := rfl
  rcases Lib.index_spec t.data.toList [45] with ⟨h1, h2⟩ | ⟨i, h1, h2, h3, h4⟩
  · refine .inr ⟨fun hm => ?_, ?_⟩
    · obtain ⟨j, hj⟩ := List.mem_iff_getElem?.1 hm
      have := h2 j (Nat.le_of_lt (List.getElem?_eq_some_iff.1 hj).1)
      rw [(occ45 _ _).2 hj] at this
      cases this
    · unfold cutB Lib.cut
      rw [hd, h1, if_neg (by decide)]
  · have hi := (occ45 _ _).1 h3
    obtain ⟨hlt, hget⟩ := List.getElem?_eq_some_iff.1 hi
    have hsplit : t.data.toList = t.data.toList.take i ++ 45 :: t.data.toList.drop (i + 1) := by
      rw [← hget, ← List.drop_eq_getElem_cons hlt, List.take_append_drop]
    refine .inl ⟨t.data.toList.take i, t.data.toList.drop (i + 1), hsplit, fun hm => ?_, ?_⟩
    · obtain ⟨j, hj⟩ := List.mem_iff_getElem?.1 hm
      rw [List.getElem?_take] at hj
      split at hj
      · rename_i hji
        have := h4 j hji
        rw [(occ45 _ _).2 hj] at this
        cases this
      · cases hj
    · unfold cutB Lib.cut
      rw [hd, h1, if_pos (by omega), Int.toNat_natCast]
      rfl
theorem byteAt_get {s : ByteArray} {i : Nat} {c : UInt8} (h : s.data.toList[i]? = some c) : i < s.size ∧ byteAt s (i : Int) = (c.toNat : Int) := by
  obtain ⟨h1, h2⟩ := List.getElem?_eq_some_iff.1 h
  exact ⟨by rw [← list_size]; exact h1, by rw [byteAt_nat h1, h2]⟩
theorem dashF_hit {s : ByteArray} : ∀ (a pre b : List UInt8) (d : Nat), s.data.toList = pre ++ (a ++ 45 :: b) → (45 : UInt8) ∉ a → a.length < d → dashF s d pre.length = pre.length + a.length
  | [], pre, b, d + 1, h, _, _ => by
    have hg : s.data.toList[pre.length]? = some 45 := by rw [h, List.getElem?_append_right (Nat.le_refl _)]; simp
    obtain ⟨h1, h2⟩ := byteAt_get hg
    simp only [dashF]
    rw [if_neg (fun hh => hh.2 (by rw [h2]; rfl))]
    rfl
  | c :: a, pre, b, d + 1, h, hn, hd => by
    have hg : s.data.toList[pre.length]? = some c := by rw [h, List.getElem?_append_right (Nat.le_refl _)]; simp
    obtain ⟨h1, h2⟩ := byteAt_get hg
    have hc : c ≠ 45 := fun e => hn (by rw [e]; exact List.mem_cons_self)
    simp only [dashF]
    rw [if_pos ⟨h1, by
      rw [h2]
      intro e
      have e' : c.toNat = 45 := by omega
      exact hc (UInt8.toNat_inj.1 (by rw [e']; rfl))⟩]
    have := dashF_hit a (pre ++ [c]) b d (by rw [h]; simp) (fun hm => hn (List.mem_cons_of_mem _ hm)) (by simp at hd; omega)
    rw [List.length_append, List.length_singleton] at this
    rw [this, List.length_cons]; omega
theorem dashF_miss {s : ByteArray} : ∀ (a pre : List UInt8) (d : Nat), s.data.toList = pre ++ a → (45 : UInt8) ∉ a → a.length ≤ d → dashF s d pre.length = pre.length + a.length
  | [], pre, d, h, _, _ => by
    have hsz : s.size = pre.length := by rw [← list_size, h]; simp
    cases d with
    | zero => rfl
    | succ d => simp only [dashF]; rw [if_neg (fun hh => by omega)]; rfl
  | c :: a, pre, d + 1, h, hn, hd => by
    have hg : s.data.toList[pre.length]? = some c := by rw [h, List.getElem?_append_right (Nat.le_refl _)]; simp
    obtain ⟨h1, h2⟩ := byteAt_get hg
    have hc : c ≠ 45 := fun e => hn (by rw [e]; exact List.mem_cons_self)
    simp only [dashF]
    rw [if_pos ⟨h1, by
      rw [h2]
      intro e
      have e' : c.toNat = 45 := by omega
      exact hc (UInt8.toNat_inj.1 (by rw [e']; rfl))⟩]
    have := dashF_miss a (pre ++ [c]) d (by rw [h]; simp) (fun hm => hn (List.mem_cons_of_mem _ hm)) (by simp at hd; omega)
    rw [List.length_append, List.length_singleton] at this
    rw [this, List.length_cons]; omega
theorem split45 : ∀ (a a' b b' : List UInt8), (45 : UInt8) ∉ a → (45 : UInt8) ∉ a' → a ++ 45 :: b = a' ++ 45 :: b' → a = a' ∧ b = b'
  | [], [], b, b', _, _, h => ⟨rfl, (List.cons.inj h).2⟩
  | [], c :: a', b, b', _, h', h => absurd (by rw [(List.cons.inj h).1]; exact List.mem_cons_self) h'
  | c :: a, [], b, b', h', _, h => absurd (by rw [← (List.cons.inj h).1]; exact List.mem_cons_self) h'
  | c :: a, c' :: a', b, b', h1, h2, h => by
    obtain ⟨e1, e2⟩ := List.cons.inj h
    obtain ⟨e3, e4⟩ := split45 a a' b b' (fun hm => h1 (List.mem_cons_of_mem _ hm)) (fun hm => h2 (List.mem_cons_of_mem _ hm)) e2
    exact ⟨by rw [e1, e3], e4⟩
theorem Canon.no45 {t : ByteArray} {v : Int} (h : Canon t v) : (45 : UInt8) ∉ t.data.toList := fun hm => by
  have := h.dig 45 hm
  have e : (45 : UInt8).toNat = 45 := rfl
  omega
theorem canon_mayI {n : Int} (h : mayI n = true) : Canon (itoaB n) n := canon_may (mayI_t h).1 (mayI_t h).2
theorem at_far {t : ByteArray} (hw : farS ++ t ≠ wholeB 7) (hne : farS ++ t ≠ noS) :
    (match stepR (farS ++ t) 7 with | some r => r | none => (0, 0, 0, ())) = (match stepD (farS ++ t) 7 with | some r => r | none => ((0, 0, 0, ()) : R3)) := by
  have hh : headB 7 = farS := rfl
  have hL : (farS ++ t).data.toList = farS.data.toList ++ t.data.toList := ba_app _ _
  have hlen : farS.data.toList.length = 4 := rfl
  have hsz : (farS ++ t).size = 4 + t.data.toList.length := by rw [← list_size, hL, List.length_append, hlen]
  have hR : stepR (farS ++ t) 7 = (if (cutB t dash).2.2.1 = true ∧ (numB (cutB t dash).1).2.1 = true ∧ (numB (cutB t dash).2.1).2.1 = true then some (7, (numB (cutB t dash).1).1, (numB (cutB t dash).2.1).1, ()) else some (0, 0, 0, ())) := by
    unfold stepR inner
    rw [if_neg hne, if_neg hw, hh, pref_app, if_neg (by decide), if_neg (by decide), if_pos rfl, rest_app]
  have hD : stepD (farS ++ t) 7 = try3 (farS ++ t) 7 (numP (farS ++ t) 4 (dashF (farS ++ t) (farS ++ t).size 4)) (numP (farS ++ t) (dashF (farS ++ t) (farS ++ t).size 4 + 1) (farS ++ t).size) := by
    unfold stepD
    rw [if_pos rfl]
  rw [hR, hD]
  rcases cut_dash t with ⟨a, b, h1, h2, h3⟩ | ⟨h1, h2⟩
  · have hdash : dashF (farS ++ t) (farS ++ t).size 4 = 4 + a.length := by
      have := dashF_hit (s := farS ++ t) a farS.data.toList b (farS ++ t).size (by rw [hL, h1]) h2 (by rw [hsz, h1, List.length_append]; omega)
      rw [hlen] at this
      exact this
    have n1 : numP (farS ++ t) 4 (4 + a.length) = numD a := by
      unfold numP
      rw [hL, h1]
      show numD ((a ++ 45 :: b).take (4 + a.length - 4)) = _
      rw [show 4 + a.length - 4 = a.length by omega, List.take_left']
      rfl
    have n2 : numP (farS ++ t) (4 + a.length + 1) (farS ++ t).size = numD b := by
      unfold numP
      rw [hsz, hL, h1]
      have e : (farS.data.toList ++ (a ++ 45 :: b)).drop (4 + a.length + 1) = b := by
        have e1 : farS.data.toList ++ (a ++ 45 :: b) = (farS.data.toList ++ (a ++ [45])) ++ b := by simp
        rw [e1, List.drop_left']
        rw [List.length_append, List.length_append, hlen, List.length_singleton]; omega
      rw [e, List.take_of_length_le]
      rw [List.length_append, List.length_cons]; omega
    rw [h3, hdash, n1, n2]
    dsimp only
    by_cases hc : (numB ⟨a.toArray⟩).2.1 = true ∧ (numB ⟨b.toArray⟩).2.1 = true
    · rw [if_pos ⟨rfl, hc.1, hc.2⟩]
      have c1 := canon_numB hc.1
      have c2 := canon_numB hc.2
      have d1 := numD_canon c1
      have d2 := numD_canon c2
      rw [mk_list] at d1 d2
      rw [d1, d2, try3_some hne c1.1 c2.1 ?_]
      unfold nameB
      rw [hh, if_neg (by decide), show mayI (numB ⟨b.toArray⟩).1 = true from decide_eq_true ⟨c2.1, c2.2.1⟩, if_neg (by decide), if_pos rfl, show mayI (numB ⟨a.toArray⟩).1 = true from decide_eq_true ⟨c1.1, c1.2.1⟩, if_neg (by decide), c1.2.2, c2.2.2]
      refine ba_ext ?_
      rw [ba_toList, ba_toList, ba_app, ba_app, ba_app, hL, h1]
      show farS.data.toList ++ a ++ [45] ++ b = _
      simp
    · rw [if_neg (fun h => hc ⟨h.2.1, h.2.2⟩), try3_none]
      intro hs _ _ h
      rcases name_pref hs h with ⟨h4, _⟩ | ⟨_, hm, ⟨_, hm1, h4⟩ | ⟨h4, _⟩⟩
      · exact absurd h4 (by decide)
      · have e := app_inj h4
        have c1 := canon_mayI hm1
        have c2 := canon_mayI hm
        have e2 : (itoaB (numD a)).data.toList ++ 45 :: (itoaB (numD b)).data.toList = a ++ 45 :: b := by
          rw [← h1, ← e, ba_app, ba_app]; rfl
        obtain ⟨e3, e4⟩ := split45 _ _ _ _ c1.no45 h2 e2
        refine hc ⟨?_, ?_⟩
        · have : ByteArray.mk a.toArray = itoaB (numD a) := by have := mk_ba (itoaB (numD a)); rw [e3] at this; exact this
          rw [this, numB_canon c1]
        · have : ByteArray.mk b.toArray = itoaB (numD b) := by have := mk_ba (itoaB (numD b)); rw [e4] at this; exact this
          rw [this, numB_canon c2]
      · exact h4 rfl
  · rw [if_neg (fun h => by rw [h2] at h; cases h.1)]
    have hdash : dashF (farS ++ t) (farS ++ t).size 4 = 4 + t.data.toList.length := by
      have := dashF_miss (s := farS ++ t) t.data.toList farS.data.toList (farS ++ t).size hL h1 (by omega)
      rw [hlen] at this
      exact this
    have n2 : numP (farS ++ t) (4 + t.data.toList.length + 1) (farS ++ t).size = -1 := by
      unfold numP numD
      rw [hsz, if_pos]
      left
      rw [show 4 + t.data.toList.length - (4 + t.data.toList.length + 1) = 0 by omega, List.take_zero]
    rw [hdash, n2, try3_none]
    intro _ _ h
    omega
/-! one kind alone -/
def first2 (x : ByteArray) : Option UInt8 × Option UInt8 := (x.data.toList[0]?, x.data.toList[1]?)
theorem first2_app {p t : ByteArray} (h : 2 ≤ p.size) : first2 (p ++ t) = first2 p := by
  unfold first2
  have e := list_size p
  rw [ba_app, List.getElem?_append_left (by omega), List.getElem?_append_left (by omega)]
theorem head2 {k : Int} (h : headB k ≠ noS) : 2 ≤ (headB k).size := by
  rcases head_cases k with ⟨_, e⟩ | ⟨_, e⟩ | ⟨_, e⟩ | ⟨_, e⟩ | ⟨_, e⟩ | ⟨_, e⟩ <;> rw [e] <;> first | decide | exact absurd e h
theorem pref_excl {k j : Int} (hk : headB k ≠ noS) (hj : headB j ≠ noS) (hne : k ≠ j) (t : ByteArray) : prefB (headB k ++ t) (headB j) = false := by
  cases h : prefB (headB k ++ t) (headB j) with
  | false => rfl
  | true =>
    have e := congrArg first2 (pref_split h)
    rw [first2_app (head2 hk), first2_app (head2 hj)] at e
    exfalso
    rcases head_cases k with ⟨k1, e1⟩ | ⟨k1, e1⟩ | ⟨k1, e1⟩ | ⟨k1, e1⟩ | ⟨k1, e1⟩ | ⟨_, e1⟩ <;> rcases head_cases j with ⟨j1, e2⟩ | ⟨j1, e2⟩ | ⟨j1, e2⟩ | ⟨j1, e2⟩ | ⟨j1, e2⟩ | ⟨_, e2⟩ <;>
      first | exact hk e1 | exact hj e2 | (rw [e1, e2] at e; exact absurd e (by decide)) | exact hne (k1.trans j1.symm)
theorem whole_cases (k : Int) : wholeB k = curS ∨ wholeB k = tmpS ∨ wholeB k = cacS ∨ wholeB k = noS := by
  unfold wholeB
  cases k == (4 : Int) <;> cases k == (5 : Int) <;> cases k == (6 : Int) <;> simp
theorem head_not {k : Int} (hk : headB k ≠ noS) (t : ByteArray) (j : Int) : headB k ++ t ≠ wholeB j ∧ headB k ++ t ≠ noS := by
  have key : ∀ x, (x = curS ∨ x = tmpS ∨ x = cacS ∨ x = noS) → headB k ++ t ≠ x := by
    intro x hx h
    have e := congrArg first2 h
    rw [first2_app (head2 hk)] at e
    rcases head_cases k with ⟨_, e1⟩ | ⟨_, e1⟩ | ⟨_, e1⟩ | ⟨_, e1⟩ | ⟨_, e1⟩ | ⟨_, e1⟩ <;> first | exact hk e1 | (rw [e1] at e; rcases hx with e2 | e2 | e2 | e2 <;> (rw [e2] at e; exact absurd e (by decide)))
  exact ⟨key _ (whole_cases j), key _ (.inr (.inr (.inr rfl)))⟩
theorem read_head {k : Int} (h1 : 1 ≤ k) (h8 : k ≤ 8) (hk : headB k ≠ noS) (t : ByteArray) : readF (headB k ++ t) = docF (headB k ++ t) ∧ readF (headB k ++ t) = (match stepR (headB k ++ t) k with | some r => r | none => (0, 0, 0, ())) := by
  have hR : ∀ j, j ≠ k → 1 ≤ j → j ≤ 8 → stepR (headB k ++ t) j = none := fun j hj _ _ => stepR_none (fun _ => (head_not hk t j).1) (fun hh => pref_excl hk hh (fun e => hj e.symm) t)
  have hD : ∀ j, j ≠ k → 1 ≤ j → j ≤ 8 → stepD (headB k ++ t) j = none := fun j hj _ _ => stepD_none (fun _ => (head_not hk t j).1) (fun hh => pref_excl hk hh (fun e => hj e.symm) t)
  have r1 : readF (headB k ++ t) = _ := readL_at hR 8 1 (by omega) h1 (by omega) (by omega)
  have r2 : docF (headB k ++ t) = _ := docL_at hD 8 1 (by omega) h1 (by omega) (by omega)
  refine ⟨?_, r1⟩
  rw [r1, r2]
  by_cases h7 : k = 7
  · subst h7
    exact at_far (head_not hk t 7).1 (head_not hk t 7).2
  · exact at_plain h7 hk (head_not hk t k).1 (head_not hk t k).2
theorem read_doc (s : ByteArray) : readF s = docF s := by
  by_cases h0 : s = noS
  · subst h0
    have a : readF noS = (0, 0, 0, ()) := readL_none 8 1 fun j _ _ => stepR_none (fun h => absurd rfl h) (fun hh => by
      cases h : prefB noS (headB j) with
      | false => rfl
      | true => exact absurd (pref_no h) hh)
    have b : docF noS = (0, 0, 0, ()) := docL_none 8 1 fun j _ _ => stepD_none (fun h => absurd rfl h) (fun hh => by
      cases h : prefB noS (headB j) with
      | false => rfl
      | true => exact absurd (pref_no h) hh)
    rw [a, b]
  by_cases hp : ∃ k, 1 ≤ k ∧ k ≤ 8 ∧ headB k ≠ noS ∧ prefB s (headB k) = true
  · obtain ⟨k, h1, h8, hk, hpk⟩ := hp
    rw [pref_split hpk]
    exact (read_head h1 h8 hk _).1
  · have hnp : ∀ j, 1 ≤ j → j ≤ 8 → headB j ≠ noS → prefB s (headB j) = false := fun j h1 h8 hh => by
      cases h : prefB s (headB j) with
      | false => rfl
      | true => exact absurd ⟨j, h1, h8, hh, h⟩ hp
    by_cases hw : ∃ k, 1 ≤ k ∧ k ≤ 8 ∧ s = wholeB k
    · obtain ⟨k, h1, h8, hk⟩ := hw
      have hs : s = curS ∨ s = tmpS ∨ s = cacS ∨ s = noS := by rw [hk]; exact whole_cases k
      rcases hs with e | e | e | e
      · rw [e]; decide +kernel
      · rw [e]; decide +kernel
      · rw [e]; decide +kernel
      · exact absurd e h0
    · have a : readF s = (0, 0, 0, ()) := readL_none 8 1 fun j h1 h2 => stepR_none (fun _ e => hw ⟨j, h1, by omega, e⟩) (hnp j h1 (by omega))
      have b : docF s = (0, 0, 0, ()) := docL_none 8 1 fun j h1 h2 => stepD_none (fun _ e => hw ⟨j, h1, by omega, e⟩) (hnp j h1 (by omega))
      rw [a, b]
end Go.Eng.Bk
