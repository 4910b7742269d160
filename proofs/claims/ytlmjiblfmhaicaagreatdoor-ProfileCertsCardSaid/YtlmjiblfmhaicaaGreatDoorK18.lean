/- Part of a proof: GhB1, GhB2, GhB3, GhB5, GhQ17, GhQ19 -/
import Derived.Test.YtlmjiblfmhaicaaGreatDoorK13
import Derived.Test.YtlmjiblfmhaicaaGreatDoorK17
import Derived.Shelf.Lay
import Derived.Shelf.Strings.Cut
import Derived.Shelf.Strings.Split
import Derived.Shelf.Strings.Prefix
import Derived.Shelf.Strings.OnBuilder
import Derived.Shelf.Strconv.AtoiAll
import Derived.Shelf.Strconv.Itoa3
import Derived.Test.YtlmjiblfmhaicaaGreatDoorProg

set_option linter.unusedSectionVars false

/- Library functions by the contracts of the kit's shelf, laid at this program by the kit's own tool, in plain words. -/
namespace Go.Proofs
open Go.Shelf
def Tryz.lays156_ren : Go.Shelf.Ren := ⟨fun | 156 => 108 | 165 => 132 | 166 => 133 | 169 => 134 | 240 => 151 | 241 => 152 | 276 => 165 | 277 => 166 | n => n, fun | 31 => 44 | 9 => 9 | 3 => 3 | 4 => 4 | 0 => 0 | 20 => 20 | 72 => 160 | 76 => 117 | 70 => 158 | 37 => 77 | 75 => 116 | 127 => 177 | 164 => 191 | 5 => 5 | 80 => 162 | n => n, fun | n => n⟩
theorem Tryz.lays156 : Go.Proofs.Lays.n156 Tryz.prog Tryz.lays156_ren := {
  mixed := by kernel_rfl
  f156 := Tryz.func108.trans (congrArg some (by kernel_rfl))
  f165 := Tryz.func132.trans (congrArg some (by kernel_rfl))
  f166 := Tryz.func133.trans (congrArg some (by kernel_rfl))
  f169 := Tryz.func134.trans (congrArg some (by kernel_rfl))
  f240 := Tryz.func151.trans (congrArg some (by kernel_rfl))
  f241 := Tryz.func152.trans (congrArg some (by kernel_rfl))
  f276 := Tryz.func165.trans (congrArg some (by kernel_rfl))
  f277 := Tryz.func166.trans (congrArg some (by kernel_rfl))
  t0 := Tryz.underlying0
  a0 := Tryz.isAgg0
  z0 := Tryz.sizeOf0
  v0 := Tryz.zeroValue0
  t3 := Tryz.underlying3
  a3 := Tryz.isAgg3
  z3 := Tryz.sizeOf3
  v3 := Tryz.zeroValue3
  t4 := Tryz.underlying4
  a4 := Tryz.isAgg4
  z4 := Tryz.sizeOf4
  v4 := Tryz.zeroValue4
  t9 := Tryz.underlying9
  a9 := Tryz.isAgg9
  z9 := Tryz.sizeOf9
  v9 := Tryz.zeroValue9
  t20 := Tryz.underlying20
  a20 := Tryz.isAgg20
  z20 := Tryz.sizeOf20
  v20 := Tryz.zeroValue20
  t31 := Tryz.underlying44
  a31 := Tryz.isAgg44
  z31 := Tryz.sizeOf44
  v31 := Tryz.zeroValue44
  t37 := Tryz.underlying77
  a37 := Tryz.isAgg77
  z37 := Tryz.sizeOf77
  v37 := Tryz.zeroValue77
  t70 := Tryz.underlying158
  a70 := Tryz.isAgg158
  z70 := Tryz.sizeOf158
  v70 := Tryz.zeroValue158
  t72 := Tryz.underlying160
  a72 := Tryz.isAgg160
  z72 := Tryz.sizeOf160
  v72 := Tryz.zeroValue160
  t75 := Tryz.underlying116
  a75 := Tryz.isAgg116
  z75 := Tryz.sizeOf116
  v75 := Tryz.zeroValue116
  t76 := Tryz.underlying117
  a76 := Tryz.isAgg117
  z76 := Tryz.sizeOf117
  v76 := Tryz.zeroValue117
  t127 := Tryz.underlying177
  a127 := Tryz.isAgg177
  z127 := Tryz.sizeOf177
  v127 := Tryz.zeroValue177
  t164 := Tryz.underlying191
  a164 := Tryz.isAgg191
  z164 := Tryz.sizeOf191
  v164 := Tryz.zeroValue191 }
theorem Tryz.Builder_Extra_156 : Builder.Extra Tryz.prog Tryz.lays156_ren := {
  sizeBuilder := by kernel_rfl
  liesBuilder := by kernel_rfl
  t5 := Tryz.underlying5
  a5 := Tryz.isAgg5
  z5 := Tryz.sizeOf5
  v5 := Tryz.zeroValue5
  infoByte := by kernel_rfl
  cellsByte := by kernel_rfl
  sizeByte := by kernel_rfl
  neB5 := by decide }
open Go.RowKit in
theorem Tryz.strings_Join_none (a : Option Addr) (c : Nat) (sep : ByteArray) (w : World) :
    Calls Tryz.prog 108 #[.slice a 0 c, .string sep] w fun e w' => e = .returned (.string ⟨#[]⟩) ∧ w' = w := Any.strings_Join_none Tryz.lays156 Tryz.Builder_Extra_156 a c sep w
open Go.RowKit in
theorem Tryz.strings_Join (bk o c : Nat) (xs : List ByteArray) (sep : ByteArray) (w : World) (hcells : ∀ (j : Nat) x, xs[j]? = some x → w.cell? ⟨bk, o + j, none⟩ = some (.string x)) (hbk : bk < w.heap.size) (hN : xs.length ≤ 140737488355328) (hcap : xs.length ≤ c) (hlen : (Lib.join (xs.map (·.data.toList)) sep.data.toList).length ≤ 140737488355328) :
    Calls Tryz.prog 108 #[.slice (some ⟨bk, o, none⟩) xs.length c, .string sep] w fun e w' => e = .returned (.string ⟨(Lib.join (xs.map (·.data.toList)) sep.data.toList).toArray⟩) ∧ Below w.heap.size w w' := Any.strings_Join Tryz.lays156 Tryz.Builder_Extra_156 bk o c xs sep w hcells hbk hN hcap hlen
def Tryz.laysM171_ren : Go.Shelf.Ren := ⟨fun | 171 => 107 | 243 => 131 | 246 => 150 | 283 => 161 | 284 => 162 | 285 => 163 | 286 => 164 | 129 => 171 | 317 => 170 | 318 => 172 | 319 => 173 | 320 => 174 | 337 => 176 | 338 => 177 | n => n, fun | 3 => 3 | 9 => 9 | 2 => 2 | 4 => 4 | 171 => 186 | 0 => 0 | 53 => 22 | 37 => 77 | 5 => 5 | 173 => 189 | 212 => 198 | 51 => 73 | 20 => 20 | 213 => 199 | 46 => 168 | 232 => 205 | 233 => 206 | n => n, fun | 17 => 3 | 18 => 6 | 19 => 7 | n => n⟩
theorem Tryz.laysM171 : Go.Proofs.LaysM.n171 Tryz.prog Tryz.laysM171_ren := {
  mixed := by kernel_rfl
  f129 := Tryz.func171.trans (congrArg some (by kernel_rfl))
  f171 := Tryz.func107.trans (congrArg some (by kernel_rfl))
  f243 := Tryz.func131.trans (congrArg some (by kernel_rfl))
  f246 := Tryz.func150.trans (congrArg some (by kernel_rfl))
  f283 := Tryz.func161.trans (congrArg some (by kernel_rfl))
  f284 := Tryz.func162.trans (congrArg some (by kernel_rfl))
  f285 := Tryz.func163.trans (congrArg some (by kernel_rfl))
  f286 := Tryz.func164.trans (congrArg some (by kernel_rfl))
  f317 := Tryz.func170.trans (congrArg some (by kernel_rfl))
  f318 := Tryz.func172.trans (congrArg some (by kernel_rfl))
  f319 := Tryz.func173.trans (congrArg some (by kernel_rfl))
  f320 := Tryz.func174.trans (congrArg some (by kernel_rfl))
  f337 := Tryz.func176.trans (congrArg some (by kernel_rfl))
  f338 := Tryz.func177.trans (congrArg some (by kernel_rfl))
  t0 := Tryz.underlying0
  a0 := Tryz.isAgg0
  z0 := Tryz.sizeOf0
  v0 := Tryz.zeroValue0
  t2 := Tryz.underlying2
  a2 := Tryz.isAgg2
  z2 := Tryz.sizeOf2
  v2 := Tryz.zeroValue2
  t3 := Tryz.underlying3
  a3 := Tryz.isAgg3
  z3 := Tryz.sizeOf3
  v3 := Tryz.zeroValue3
  t4 := Tryz.underlying4
  a4 := Tryz.isAgg4
  z4 := Tryz.sizeOf4
  v4 := Tryz.zeroValue4
  t5 := Tryz.underlying5
  a5 := Tryz.isAgg5
  z5 := Tryz.sizeOf5
  v5 := Tryz.zeroValue5
  t9 := Tryz.underlying9
  a9 := Tryz.isAgg9
  z9 := Tryz.sizeOf9
  v9 := Tryz.zeroValue9
  t20 := Tryz.underlying20
  a20 := Tryz.isAgg20
  z20 := Tryz.sizeOf20
  v20 := Tryz.zeroValue20
  t37 := Tryz.underlying77
  a37 := Tryz.isAgg77
  z37 := Tryz.sizeOf77
  v37 := Tryz.zeroValue77
  t46 := Tryz.underlying168
  a46 := Tryz.isAgg168
  z46 := Tryz.sizeOf168
  v46 := Tryz.zeroValue168
  t51 := Tryz.underlying73
  a51 := Tryz.isAgg73
  z51 := Tryz.sizeOf73
  v51 := Tryz.zeroValue73
  t53 := Tryz.underlying22
  a53 := Tryz.isAgg22
  z53 := Tryz.sizeOf22
  v53 := Tryz.zeroValue22
  t171 := Tryz.underlying186
  a171 := Tryz.isAgg186
  z171 := Tryz.sizeOf186
  v171 := Tryz.zeroValue186
  t173 := Tryz.underlying189
  a173 := Tryz.isAgg189
  z173 := Tryz.sizeOf189
  v173 := Tryz.zeroValue189
  t212 := Tryz.underlying198
  a212 := Tryz.isAgg198
  z212 := Tryz.sizeOf198
  v212 := Tryz.zeroValue198
  t213 := Tryz.underlying199
  a213 := Tryz.isAgg199
  z213 := Tryz.sizeOf199
  t232 := Tryz.underlying205
  a232 := Tryz.isAgg205
  z232 := Tryz.sizeOf205
  v232 := Tryz.zeroValue205
  t233 := Tryz.underlying206
  a233 := Tryz.isAgg206
  z233 := Tryz.sizeOf206
  v233 := Tryz.zeroValue206
  g17 := by kernel_rfl
  g18 := by kernel_rfl
  g19 := by kernel_rfl
  i0 := by kernel_rfl
  i2 := by kernel_rfl
  i3 := by kernel_rfl
  i4 := by kernel_rfl
  i5 := by kernel_rfl
  i9 := by kernel_rfl
  i20 := by kernel_rfl
  i37 := by kernel_rfl
  i46 := by kernel_rfl
  i51 := by kernel_rfl
  i53 := by kernel_rfl
  i171 := by kernel_rfl
  i173 := by kernel_rfl
  i212 := by kernel_rfl
  i232 := by kernel_rfl
  i233 := by kernel_rfl
  m17 := by kernel_rfl
  m18 := by kernel_rfl
  m19 := by kernel_rfl }
open Go.RowKit Go.Sort Go.Lib in
theorem Tryz.strconv_Itoa (n : Int) (h0 : -9223372036854775808 ≤ n) (h1 : n ≤ 9223372036854775807) (w : World) (htab : Lib.TabIs Tryz.prog w "internal/strconv.uint64pow10" .u64 Lib.pow10Tab) :
    Calls Tryz.prog 107 #[.int .i64 n] w fun e w' => e = .returned (.string ⟨(Lib.itoa n).toArray⟩) ∧ ∃ k os, w' = grow (w.drewN k) os := Any.strconv_Itoa Tryz.laysM171 n h0 h1 w htab
def Tryz.laysC172_ren : Go.Shelf.Ren := ⟨fun | 172 => 79 | 244 => 102 | 245 => 103 | 247 => 122 | 279 => 123 | 280 => 124 | 281 => 125 | 282 => 126 | 287 => 144 | 316 => 145 | 171 => 107 | 205 => 146 | 321 => 156 | 322 => 157 | 243 => 131 | 246 => 150 | 283 => 161 | 284 => 162 | 285 => 163 | 286 => 164 | 129 => 171 | 317 => 170 | 318 => 172 | 319 => 173 | 320 => 174 | 337 => 176 | 338 => 177 | n => n, fun | 9 => 9 | 3 => 3 | 75 => 116 | 76 => 117 | 4 => 4 | 5 => 5 | 167 => 148 | 37 => 77 | 0 => 0 | 85 => 149 | 2 => 2 | 168 => 151 | 53 => 22 | 175 => 169 | 46 => 168 | 210 => 173 | 127 => 177 | 145 => 184 | 143 => 182 | 21 => 21 | 171 => 186 | 173 => 189 | 212 => 198 | 51 => 73 | 20 => 20 | 213 => 199 | 232 => 205 | 233 => 206 | 80 => 162 | n => n, fun | 15 => 1 | 16 => 2 | 17 => 3 | 18 => 6 | 19 => 7 | n => n⟩
theorem Tryz.laysC172 : Go.Proofs.LaysC.n172 Tryz.prog Tryz.laysC172_ren := {
  mixed := by kernel_rfl
  f129 := Tryz.func171.trans (congrArg some (by kernel_rfl))
  f171 := Tryz.func107.trans (congrArg some (by kernel_rfl))
  f172 := Tryz.func79.trans (congrArg some (by kernel_rfl))
  f205 := Tryz.func146.trans (congrArg some (by kernel_rfl))
  f243 := Tryz.func131.trans (congrArg some (by kernel_rfl))
  f244 := Tryz.func102.trans (congrArg some (by kernel_rfl))
  f245 := Tryz.func103.trans (congrArg some (by kernel_rfl))
  f246 := Tryz.func150.trans (congrArg some (by kernel_rfl))
  f247 := Tryz.func122.trans (congrArg some (by kernel_rfl))
  f279 := Tryz.func123.trans (congrArg some (by kernel_rfl))
  f280 := Tryz.func124.trans (congrArg some (by kernel_rfl))
  f281 := Tryz.func125.trans (congrArg some (by kernel_rfl))
  f282 := Tryz.func126.trans (congrArg some (by kernel_rfl))
  f283 := Tryz.func161.trans (congrArg some (by kernel_rfl))
  f284 := Tryz.func162.trans (congrArg some (by kernel_rfl))
  f285 := Tryz.func163.trans (congrArg some (by kernel_rfl))
  f286 := Tryz.func164.trans (congrArg some (by kernel_rfl))
  f287 := Tryz.func144.trans (congrArg some (by kernel_rfl))
  f316 := Tryz.func145.trans (congrArg some (by kernel_rfl))
  f317 := Tryz.func170.trans (congrArg some (by kernel_rfl))
  f318 := Tryz.func172.trans (congrArg some (by kernel_rfl))
  f319 := Tryz.func173.trans (congrArg some (by kernel_rfl))
  f320 := Tryz.func174.trans (congrArg some (by kernel_rfl))
  f321 := Tryz.func156.trans (congrArg some (by kernel_rfl))
  f322 := Tryz.func157.trans (congrArg some (by kernel_rfl))
  f337 := Tryz.func176.trans (congrArg some (by kernel_rfl))
  f338 := Tryz.func177.trans (congrArg some (by kernel_rfl))
  t0 := Tryz.underlying0
  a0 := Tryz.isAgg0
  z0 := Tryz.sizeOf0
  v0 := Tryz.zeroValue0
  t2 := Tryz.underlying2
  a2 := Tryz.isAgg2
  z2 := Tryz.sizeOf2
  v2 := Tryz.zeroValue2
  t3 := Tryz.underlying3
  a3 := Tryz.isAgg3
  z3 := Tryz.sizeOf3
  v3 := Tryz.zeroValue3
  t4 := Tryz.underlying4
  a4 := Tryz.isAgg4
  z4 := Tryz.sizeOf4
  v4 := Tryz.zeroValue4
  t5 := Tryz.underlying5
  a5 := Tryz.isAgg5
  z5 := Tryz.sizeOf5
  v5 := Tryz.zeroValue5
  t9 := Tryz.underlying9
  a9 := Tryz.isAgg9
  z9 := Tryz.sizeOf9
  v9 := Tryz.zeroValue9
  t20 := Tryz.underlying20
  a20 := Tryz.isAgg20
  z20 := Tryz.sizeOf20
  v20 := Tryz.zeroValue20
  t21 := Tryz.underlying21
  a21 := Tryz.isAgg21
  z21 := Tryz.sizeOf21
  v21 := Tryz.zeroValue21
  t37 := Tryz.underlying77
  a37 := Tryz.isAgg77
  z37 := Tryz.sizeOf77
  v37 := Tryz.zeroValue77
  t46 := Tryz.underlying168
  a46 := Tryz.isAgg168
  z46 := Tryz.sizeOf168
  v46 := Tryz.zeroValue168
  t51 := Tryz.underlying73
  a51 := Tryz.isAgg73
  z51 := Tryz.sizeOf73
  v51 := Tryz.zeroValue73
  t53 := Tryz.underlying22
  a53 := Tryz.isAgg22
  z53 := Tryz.sizeOf22
  v53 := Tryz.zeroValue22
  t75 := Tryz.underlying116
  a75 := Tryz.isAgg116
  z75 := Tryz.sizeOf116
  v75 := Tryz.zeroValue116
  t76 := Tryz.underlying117
  a76 := Tryz.isAgg117
  z76 := Tryz.sizeOf117
  v76 := Tryz.zeroValue117
  t85 := Tryz.underlying149
  a85 := Tryz.isAgg149
  z85 := Tryz.sizeOf149
  v85 := Tryz.zeroValue149
  t127 := Tryz.underlying177
  a127 := Tryz.isAgg177
  z127 := Tryz.sizeOf177
  v127 := Tryz.zeroValue177
  t143 := Tryz.underlying182
  a143 := Tryz.isAgg182
  z143 := Tryz.sizeOf182
  v143 := Tryz.zeroValue182
  t145 := Tryz.underlying184
  a145 := Tryz.isAgg184
  z145 := Tryz.sizeOf184
  v145 := Tryz.zeroValue184
  t167 := Tryz.underlying148
  a167 := Tryz.isAgg148
  z167 := Tryz.sizeOf148
  v167 := Tryz.zeroValue148
  t168 := Tryz.underlying151
  a168 := Tryz.isAgg151
  z168 := Tryz.sizeOf151
  v168 := Tryz.zeroValue151
  t171 := Tryz.underlying186
  a171 := Tryz.isAgg186
  z171 := Tryz.sizeOf186
  v171 := Tryz.zeroValue186
  t173 := Tryz.underlying189
  a173 := Tryz.isAgg189
  z173 := Tryz.sizeOf189
  v173 := Tryz.zeroValue189
  t175 := Tryz.underlying169
  a175 := Tryz.isAgg169
  z175 := Tryz.sizeOf169
  v175 := Tryz.zeroValue169
  t210 := Tryz.underlying173
  a210 := Tryz.isAgg173
  z210 := Tryz.sizeOf173
  v210 := Tryz.zeroValue173
  t212 := Tryz.underlying198
  a212 := Tryz.isAgg198
  z212 := Tryz.sizeOf198
  v212 := Tryz.zeroValue198
  t213 := Tryz.underlying199
  a213 := Tryz.isAgg199
  z213 := Tryz.sizeOf199
  t232 := Tryz.underlying205
  a232 := Tryz.isAgg205
  z232 := Tryz.sizeOf205
  v232 := Tryz.zeroValue205
  t233 := Tryz.underlying206
  a233 := Tryz.isAgg206
  z233 := Tryz.sizeOf206
  v233 := Tryz.zeroValue206
  g15 := by kernel_rfl
  g16 := by kernel_rfl
  g17 := by kernel_rfl
  g18 := by kernel_rfl
  g19 := by kernel_rfl
  t80 := Tryz.underlying162
  a80 := Tryz.isAgg162
  z80 := Tryz.sizeOf162
  v80 := Tryz.zeroValue162
  i0 := by kernel_rfl
  i2 := by kernel_rfl
  i3 := by kernel_rfl
  i4 := by kernel_rfl
  i5 := by kernel_rfl
  i9 := by kernel_rfl
  i20 := by kernel_rfl
  i21 := by kernel_rfl
  i37 := by kernel_rfl
  i46 := by kernel_rfl
  i51 := by kernel_rfl
  i53 := by kernel_rfl
  i75 := by kernel_rfl
  i76 := by kernel_rfl
  i80 := by kernel_rfl
  i85 := by kernel_rfl
  i127 := by kernel_rfl
  i143 := by kernel_rfl
  i145 := by kernel_rfl
  i167 := by kernel_rfl
  i168 := by kernel_rfl
  i171 := by kernel_rfl
  i173 := by kernel_rfl
  i175 := by kernel_rfl
  i210 := by kernel_rfl
  i212 := by kernel_rfl
  i232 := by kernel_rfl
  i233 := by kernel_rfl
  m15 := by kernel_rfl
  m16 := by kernel_rfl
  m17 := by kernel_rfl
  m18 := by kernel_rfl
  m19 := by kernel_rfl
  c0 := by kernel_rfl
  c2 := by kernel_rfl
  c3 := by kernel_rfl
  c4 := by kernel_rfl
  c5 := by kernel_rfl
  c9 := by kernel_rfl
  c20 := by kernel_rfl
  c21 := by kernel_rfl
  c37 := by kernel_rfl
  c46 := by kernel_rfl
  c51 := by kernel_rfl
  c53 := by kernel_rfl
  c75 := by kernel_rfl
  c76 := by kernel_rfl
  c80 := by kernel_rfl
  c85 := by kernel_rfl
  c127 := by kernel_rfl
  c143 := by kernel_rfl
  c145 := by kernel_rfl
  c167 := by kernel_rfl
  c168 := by kernel_rfl
  c171 := by kernel_rfl
  c173 := by kernel_rfl
  c175 := by kernel_rfl
  c210 := by kernel_rfl
  c212 := by kernel_rfl
  c213 := by kernel_rfl
  c232 := by kernel_rfl
  c233 := by kernel_rfl }
open Go.RowKit in
theorem Tryz.strconv_Atoi_ok (s : ByteArray) (hmax : s.size ≤ 9223372036854775806) (v : Int) (h : Lib.atoiAll s.data.toList = .ok v) (w : World) :
    Calls Tryz.prog 79 #[.string s] w fun e w' => e = .returned (.tuple #[.int .i64 v, .nilIface]) ∧ (w' = w ∨ ∃ t, w' = Lib.bytesWorld w 5 t) := Any.strconv_Atoi_ok Tryz.laysC172 s hmax v h w
open Go.RowKit in
theorem Tryz.strconv_Atoi_syntax (s : ByteArray) (hlim : s.size ≤ 281474976710656) (h : Lib.atoiAll s.data.toList = Lib.atoiAll []) (ev : Value) (w : World) (hv : w.cell? ⟨1, 0, none⟩ = some ev) (hev : ev = .nilIface ∨ ∃ te pe, ev = .iface te pe) :
    Calls Tryz.prog 79 #[.string s] w fun e w' => ∃ N, e = .returned (.tuple #[.int .i64 (0), .iface 151 (.pointer (some ⟨N, 0, none⟩))]) ∧ w.heap.size ≤ N ∧ w'.heap[N]? = some (.cells #[.string ⟨#[65, 116, 111, 105]⟩, .string s, ev] 173 (0, 0)) ∧ Below w.heap.size w w' := Any.strconv_Atoi_syntax Tryz.laysC172 s hlim h ev w hv hev
open Go.RowKit in
theorem Tryz.strconv_Atoi_range (s : ByteArray) (hlim : s.size ≤ 281474976710656) (h : Lib.atoiAll s.data.toList = .range) (ev : Value) (w : World) (hv : w.cell? ⟨2, 0, none⟩ = some ev) (hev : ev = .nilIface ∨ ∃ te pe, ev = .iface te pe) :
    Calls Tryz.prog 79 #[.string s] w fun e w' => ∃ N, e = .returned (.tuple #[.int .i64 (Lib.atoiSat s.data.toList), .iface 151 (.pointer (some ⟨N, 0, none⟩))]) ∧ w.heap.size ≤ N ∧ w'.heap[N]? = some (.cells #[.string ⟨#[65, 116, 111, 105]⟩, .string s, ev] 173 (0, 0)) ∧ Below w.heap.size w w' := Any.strconv_Atoi_range Tryz.laysC172 s hlim h ev w hv hev
def Tryz.lays145_ren : Go.Shelf.Ren := ⟨fun | 145 => 78 | 220 => 101 | 219 => 121 | 217 => 140 | 225 => 141 | 224 => 142 | 267 => 143 | 266 => 154 | 314 => 155 | n => n, fun | 9 => 9 | 4 => 4 | 59 => 110 | 3 => 3 | 5 => 5 | 46 => 168 | 146 => 179 | 51 => 73 | n => n, fun | 1 => 0 | n => n⟩
theorem Tryz.lays145 : Go.Proofs.Lays.n145 Tryz.prog Tryz.lays145_ren := {
  mixed := by kernel_rfl
  f145 := Tryz.func78.trans (congrArg some (by kernel_rfl))
  f217 := Tryz.func140.trans (congrArg some (by kernel_rfl))
  f219 := Tryz.func121.trans (congrArg some (by kernel_rfl))
  f220 := Tryz.func101.trans (congrArg some (by kernel_rfl))
  f224 := Tryz.func142.trans (congrArg some (by kernel_rfl))
  f225 := Tryz.func141.trans (congrArg some (by kernel_rfl))
  f266 := Tryz.func154.trans (congrArg some (by kernel_rfl))
  f267 := Tryz.func143.trans (congrArg some (by kernel_rfl))
  f314 := Tryz.func155.trans (congrArg some (by kernel_rfl))
  t3 := Tryz.underlying3
  a3 := Tryz.isAgg3
  z3 := Tryz.sizeOf3
  v3 := Tryz.zeroValue3
  t4 := Tryz.underlying4
  a4 := Tryz.isAgg4
  z4 := Tryz.sizeOf4
  v4 := Tryz.zeroValue4
  t5 := Tryz.underlying5
  a5 := Tryz.isAgg5
  z5 := Tryz.sizeOf5
  v5 := Tryz.zeroValue5
  t9 := Tryz.underlying9
  a9 := Tryz.isAgg9
  z9 := Tryz.sizeOf9
  v9 := Tryz.zeroValue9
  t46 := Tryz.underlying168
  a46 := Tryz.isAgg168
  z46 := Tryz.sizeOf168
  v46 := Tryz.zeroValue168
  t51 := Tryz.underlying73
  a51 := Tryz.isAgg73
  z51 := Tryz.sizeOf73
  v51 := Tryz.zeroValue73
  t59 := Tryz.underlying110
  a59 := Tryz.isAgg110
  z59 := Tryz.sizeOf110
  v59 := Tryz.zeroValue110
  t146 := Tryz.underlying179
  a146 := Tryz.isAgg179
  z146 := Tryz.sizeOf179
  v146 := Tryz.zeroValue179
  g1 := by kernel_rfl }
open Go.RowKit Go.Lib in
theorem Tryz.strings_Cut (s sep : ByteArray) (m : Int) (w : World) (hs : s.size < 4294967281) (hm : w.cell? ⟨0, 0, none⟩ = some (.int .i64 m)) :
    Calls Tryz.prog 78 #[.string s, .string sep] w fun e w' => e = .returned (.tuple #[.string ⟨(Lib.cut s.data.toList sep.data.toList).1.toArray⟩, .string ⟨(Lib.cut s.data.toList sep.data.toList).2.1.toArray⟩, .bool (Lib.cut s.data.toList sep.data.toList).2.2]) ∧ ∃ n, w' = w.drewN n := Any.strings_Cut Tryz.lays145 s sep m w hs hm
def Tryz.lays99_ren : Go.Shelf.Ren := ⟨fun | 99 => 128 | 206 => 148 | n => n, fun | 9 => 9 | 4 => 4 | 3 => 3 | n => n, fun | n => n⟩
theorem Tryz.lays99 : Go.Proofs.Lays.n99 Tryz.prog Tryz.lays99_ren := {
  mixed := by kernel_rfl
  f99 := Tryz.func128.trans (congrArg some (by kernel_rfl))
  f206 := Tryz.func148.trans (congrArg some (by kernel_rfl))
  t3 := Tryz.underlying3
  a3 := Tryz.isAgg3
  z3 := Tryz.sizeOf3
  v3 := Tryz.zeroValue3
  t4 := Tryz.underlying4
  a4 := Tryz.isAgg4
  z4 := Tryz.sizeOf4
  v4 := Tryz.zeroValue4
  t9 := Tryz.underlying9
  a9 := Tryz.isAgg9
  z9 := Tryz.sizeOf9
  v9 := Tryz.zeroValue9 }
open Go.RowKit Go.Lib in
theorem Tryz.strings_HasPrefix (s p : ByteArray) (w : World) :
    Calls Tryz.prog 128 #[.string s, .string p] w fun e w' => e = .returned (.bool (Lib.hasPrefix s.data.toList p.data.toList)) ∧ w' = w := Any.strings_HasPrefix Tryz.lays99 s p w
def Tryz.lays100_ren : Go.Shelf.Ren := ⟨fun | 100 => 129 | 207 => 149 | n => n, fun | 9 => 9 | 4 => 4 | 3 => 3 | n => n, fun | n => n⟩
theorem Tryz.lays100 : Go.Proofs.Lays.n100 Tryz.prog Tryz.lays100_ren := {
  mixed := by kernel_rfl
  f100 := Tryz.func129.trans (congrArg some (by kernel_rfl))
  f207 := Tryz.func149.trans (congrArg some (by kernel_rfl))
  t3 := Tryz.underlying3
  a3 := Tryz.isAgg3
  z3 := Tryz.sizeOf3
  v3 := Tryz.zeroValue3
  t4 := Tryz.underlying4
  a4 := Tryz.isAgg4
  z4 := Tryz.sizeOf4
  v4 := Tryz.zeroValue4
  t9 := Tryz.underlying9
  a9 := Tryz.isAgg9
  z9 := Tryz.sizeOf9
  v9 := Tryz.zeroValue9 }
open Go.RowKit Go.Lib in
theorem Tryz.strings_HasSuffix (s p : ByteArray) (w : World) (hs : s.size ≤ 9223372036854775807) :
    Calls Tryz.prog 129 #[.string s, .string p] w fun e w' => e = .returned (.bool (Lib.hasSuffix s.data.toList p.data.toList)) ∧ w' = w := Any.strings_HasSuffix Tryz.lays100 s p w hs
def Tryz.lays146_ren : Go.Shelf.Ren := ⟨fun | 146 => 127 | 221 => 147 | 268 => 158 | 138 => 159 | 143 => 160 | 195 => 167 | 197 => 168 | 218 => 169 | 219 => 121 | 260 => 175 | 217 => 140 | 225 => 141 | 224 => 142 | 267 => 143 | 266 => 154 | 314 => 155 | n => n, fun | 9 => 9 | 31 => 44 | 3 => 3 | 4 => 4 | 0 => 0 | 105 => 195 | 21 => 21 | 5 => 5 | 46 => 168 | 119 => 156 | 139 => 204 | 138 => 203 | 146 => 179 | 51 => 73 | n => n, fun | 1 => 0 | 3 => 4 | 4 => 5 | n => n⟩
theorem Tryz.lays146 : Go.Proofs.Lays.n146 Tryz.prog Tryz.lays146_ren := {
  mixed := by kernel_rfl
  f138 := Tryz.func159.trans (congrArg some (by kernel_rfl))
  f143 := Tryz.func160.trans (congrArg some (by kernel_rfl))
  f146 := Tryz.func127.trans (congrArg some (by kernel_rfl))
  f195 := Tryz.func167.trans (congrArg some (by kernel_rfl))
  f197 := Tryz.func168.trans (congrArg some (by kernel_rfl))
  f217 := Tryz.func140.trans (congrArg some (by kernel_rfl))
  f218 := Tryz.func169.trans (congrArg some (by kernel_rfl))
  f219 := Tryz.func121.trans (congrArg some (by kernel_rfl))
  f221 := Tryz.func147.trans (congrArg some (by kernel_rfl))
  f224 := Tryz.func142.trans (congrArg some (by kernel_rfl))
  f225 := Tryz.func141.trans (congrArg some (by kernel_rfl))
  f260 := Tryz.func175.trans (congrArg some (by kernel_rfl))
  f266 := Tryz.func154.trans (congrArg some (by kernel_rfl))
  f267 := Tryz.func143.trans (congrArg some (by kernel_rfl))
  f268 := Tryz.func158.trans (congrArg some (by kernel_rfl))
  f314 := Tryz.func155.trans (congrArg some (by kernel_rfl))
  t0 := Tryz.underlying0
  a0 := Tryz.isAgg0
  z0 := Tryz.sizeOf0
  v0 := Tryz.zeroValue0
  t3 := Tryz.underlying3
  a3 := Tryz.isAgg3
  z3 := Tryz.sizeOf3
  v3 := Tryz.zeroValue3
  t4 := Tryz.underlying4
  a4 := Tryz.isAgg4
  z4 := Tryz.sizeOf4
  v4 := Tryz.zeroValue4
  t5 := Tryz.underlying5
  a5 := Tryz.isAgg5
  z5 := Tryz.sizeOf5
  v5 := Tryz.zeroValue5
  t9 := Tryz.underlying9
  a9 := Tryz.isAgg9
  z9 := Tryz.sizeOf9
  v9 := Tryz.zeroValue9
  t21 := Tryz.underlying21
  a21 := Tryz.isAgg21
  z21 := Tryz.sizeOf21
  v21 := Tryz.zeroValue21
  t31 := Tryz.underlying44
  a31 := Tryz.isAgg44
  z31 := Tryz.sizeOf44
  v31 := Tryz.zeroValue44
  t46 := Tryz.underlying168
  a46 := Tryz.isAgg168
  z46 := Tryz.sizeOf168
  v46 := Tryz.zeroValue168
  t51 := Tryz.underlying73
  a51 := Tryz.isAgg73
  z51 := Tryz.sizeOf73
  v51 := Tryz.zeroValue73
  t105 := Tryz.underlying195
  a105 := Tryz.isAgg195
  z105 := Tryz.sizeOf195
  v105 := Tryz.zeroValue195
  t119 := Tryz.underlying156
  a119 := Tryz.isAgg156
  z119 := Tryz.sizeOf156
  t138 := Tryz.underlying203
  a138 := Tryz.isAgg203
  z138 := Tryz.sizeOf203
  v138 := Tryz.zeroValue203
  t139 := Tryz.underlying204
  a139 := Tryz.isAgg204
  z139 := Tryz.sizeOf204
  v139 := Tryz.zeroValue204
  t146 := Tryz.underlying179
  a146 := Tryz.isAgg179
  z146 := Tryz.sizeOf179
  v146 := Tryz.zeroValue179
  g1 := by kernel_rfl
  g3 := by kernel_rfl
  g4 := by kernel_rfl }
open Go.RowKit Go.Lib in
theorem Tryz.strings_Split (s sep : ByteArray) (m : Int) (w : World) (hs : s.size < 4294967281) (hm : w.cell? ⟨0, 0, none⟩ = some (.int .i64 m)) (h1 : 1 ≤ sep.size) :
    Calls Tryz.prog 127 #[.string s, .string sep] w fun e w' =>
      e = .returned (.slice (some ⟨w.heap.size, 0, none⟩) (Lib.countB s sep + 1) (Lib.countB s sep + 1)) ∧ w' = w.alloc (.cells ((Lib.splitB sep 0 (Lib.countB s sep) s).map Value.string).toArray 9) := Any.strings_Split Tryz.lays146 (by kernel_rfl) s sep m w hs hm h1
end Go.Proofs

/- Library functions on strings, as contracts of the layer. -/
namespace Go.Gp.Tryz
variable [Inhabited MaxLenT]
open Go.Proofs Go.RowKit
set_option linter.unusedVariables false
set_option linter.unusedSimpArgs false
set_option linter.unusedSectionVars false
set_option maxHeartbeats 4000000

theorem glob_cell {G : GEnv} {c : Cfg} {g : Nat} {a : AV} (ho : Ok G c) (hg : G g = some [a]) : ∃ v, c.w.cell? ⟨g, 0, none⟩ = some v ∧ RelV c a v := by
  have h := ho.glob g [a] hg
  cases h with
  | rp vs hs hf hr => exact ⟨vs 0, (hf 0 (by simp)).1, hr 0 a rfl⟩
theorem str_args1 {c : Cfg} {s : List UInt8} {vs : List Value} (h : RelL c [.str s] vs) : vs = [.string ⟨s.toArray⟩] := by
  match vs, h with
  | [v], h => have h0 := h.head; cases h0; rfl
  | [], h => have := h.1; simp at this
  | _ :: _ :: _, h => have := h.1; simp at this
theorem str_args2 {c : Cfg} {s p : List UInt8} {vs : List Value} (h : RelL c [.str s, .str p] vs) : vs = [.string ⟨s.toArray⟩, .string ⟨p.toArray⟩] := by
  match vs, h with
  | [v, u], h => have h0 := h.head; have h1 := h.tail.head; cases h0; cases h1; rfl
  | [], h => have := h.1; simp at this
  | [_], h => have := h.1; simp at this
  | _ :: _ :: _ :: _, h => have := h.1; simp at this
theorem below_drewN (w : World) (n : Nat) : Below w.heap.size w (w.drewN n) := ⟨rfl, rfl, rfl, Nat.le_refl _, fun _ _ => rfl⟩
theorem ba_size (s : List UInt8) : (ByteArray.mk s.toArray).size = s.length := by show s.toArray.size = _; simp
def cutAV (s p : List UInt8) : AV := .tup [.str (Lib.cut s p).1, .str (Lib.cut s p).2.1, .bool (Lib.cut s p).2.2]
theorem cut_A (s p : List UInt8) (H : List AObj) (hs : s.length < 4294967281) : CallsA E 78 [.str s, .str p] H (Is H (cutAV s p)) := by
  refine .lib Tryz.func78 rfl rfl fun c vs hH ho hr => ?_
  obtain rfl := str_args2 hr
  obtain ⟨v, hv, hvr⟩ := glob_cell (g := 0) (a := .int .i64 (default : MaxLenT).v) ho rfl
  cases hvr
  refine (Tryz.strings_Cut ⟨s.toArray⟩ ⟨p.toArray⟩ _ c.w (by rw [ba_size]; exact hs) hv).mono ?_
  rintro e w' ⟨rfl, n, rfl⟩
  refine ⟨below_drewN _ _, _, rfl, ?_⟩
  exact .tup [_, _, _] rfl (fun i a v h1 h2 => by
    match i with
    | 0 => cases h1; cases h2; exact .str
    | 1 => cases h1; cases h2; exact .str
    | 2 => cases h1; cases h2; exact .bool
    | _ + 3 => cases h1)
theorem hasPrefix_A (s p : List UInt8) (H : List AObj) : CallsA E 128 [.str s, .str p] H (Is H (.bool (Lib.hasPrefix s p))) := by
  refine .lib Tryz.func128 rfl rfl fun c vs hH ho hr => ?_
  obtain rfl := str_args2 hr
  refine (Tryz.strings_HasPrefix ⟨s.toArray⟩ ⟨p.toArray⟩ c.w).mono ?_
  rintro e w' ⟨rfl, rfl⟩
  exact ⟨Below.refl _ _, _, rfl, .bool⟩
theorem hasSuffix_A (s p : List UInt8) (H : List AObj) (hs : s.length ≤ 1000000) : CallsA E 129 [.str s, .str p] H (Is H (.bool (Lib.hasSuffix s p))) := by
  refine .lib Tryz.func129 rfl rfl fun c vs hH ho hr => ?_
  obtain rfl := str_args2 hr
  refine (Tryz.strings_HasSuffix ⟨s.toArray⟩ ⟨p.toArray⟩ c.w (by rw [ba_size]; omega)).mono ?_
  rintro e w' ⟨rfl, rfl⟩
  exact ⟨Below.refl _ _, _, rfl, .bool⟩
end Go.Gp.Tryz

/- strings.Join, as a contract of the layer. -/
namespace Go.Gp.Tryz
variable [Inhabited MaxLenT]
open Go.Proofs Go.RowKit
set_option linter.unusedVariables false
set_option linter.unusedSimpArgs false
set_option linter.unusedSectionVars false
set_option maxHeartbeats 4000000

def strRows (l : List (List UInt8)) : List (List AV) := l.map fun s => [.str s]
theorem strRows_get {l : List (List UInt8)} {i : Nat} (h : i < l.length) : (strRows l)[i]? = some [.str l[i]] := by
  rw [strRows, List.getElem?_map, List.getElem?_eq_getElem h]; rfl
theorem join_A (l : List (List UInt8)) (p : List UInt8) (H : List AObj) (hn : l.length ≤ 1000000) (hj : (Lib.join l p).length ≤ 1000000) : CallsA E 108 [.sl .no 1 (strRows l), .str p] H (Is H (.str (Lib.join l p))) := by
  refine .lib Tryz.func108 rfl rfl fun c vs hH ho hr => ?_
  have hv : ∃ v, vs = [v, .string ⟨p.toArray⟩] ∧ RelV c (.sl .no 1 (strRows l)) v := by
    match vs, hr with
    | [v, u], h => have h0 := h.head; have h1 := h.tail.head; cases h1; exact ⟨v, rfl, h0⟩
    | [], h => have := h.1; simp at this
    | [_], h => have := h.1; simp at this
    | _ :: _ :: _ :: _, h => have := h.1; simp at this
  obtain ⟨v, rfl, hv⟩ := hv
  cases hv with
  | sl ws hl hc hz ht hf hrr =>
    rename_i a len cap
    rw [strRows, List.length_map] at hl
    subst hl
    cases hne : l with
    | nil =>
      subst hne
      refine (Tryz.strings_Join_none a cap ⟨p.toArray⟩ c.w).mono ?_
      rintro e w' ⟨rfl, rfl⟩
      exact ⟨Below.refl _ _, _, rfl, .str⟩
    | cons s0 l0 =>
      rw [← hne]
      have hpos : 0 < l.length := by rw [hne]; simp
      obtain ⟨ad, rfl, hsp, hfz⟩ := hf 0 0 hpos (by decide)
      have hcell : ∀ (j : Nat) (x : ByteArray), (l.map fun s => (⟨s.toArray⟩ : ByteArray))[j]? = some x → c.w.cell? ⟨ad.block, ad.off + j, none⟩ = some (.string x) := fun j x hx => by
        have hjl : j < l.length := by have := (List.getElem?_eq_some_iff.1 hx).1; simpa using this
        rw [List.getElem?_map, List.getElem?_eq_getElem hjl] at hx
        injection hx with hx
        subst hx
        obtain ⟨ad', e1, e2, e3⟩ := hf j 0 hjl (by decide)
        injection e1 with e1
        subst e1
        have h1 := hrr j 0 _ _ (strRows_get hjl) rfl
        generalize ws j 0 = u at *
        cases h1
        have h2 := e3.1
        have e4 : ad.add (j * 1 + 0) = ⟨ad.block, ad.off + j, none⟩ := by
          obtain ⟨b, o, sp⟩ := ad
          have : sp = none := hsp
          subst this
          unfold Addr.add
          split
          · rename_i h0
            have : j = 0 := by omega
            subst this
            rfl
          · simp
        rw [e4] at h2
        exact h2
      have hmap : (l.map fun s => (⟨s.toArray⟩ : ByteArray)).map (·.data.toList) = l := by
        rw [List.map_map]
        exact (List.map_congr_left fun s _ => rfl).trans (List.map_id l)
      have hlen : (l.map fun s => (⟨s.toArray⟩ : ByteArray)).length = l.length := List.length_map _
      have hbk : ad.block < c.w.heap.size := by
        have := hcell 0 ⟨l[0].toArray⟩ (by rw [List.getElem?_map, List.getElem?_eq_getElem hpos]; rfl)
        exact cell_lt (p := ⟨ad.block, ad.off + 0, none⟩) this
      have hJ := Tryz.strings_Join ad.block ad.off cap (l.map fun s => (⟨s.toArray⟩ : ByteArray)) ⟨p.toArray⟩ c.w hcell hbk (by rw [hlen]; omega) (by rw [hlen]; exact hc) (by rw [hmap]; show (Lib.join l p).length ≤ _; omega)
      rw [hmap, hlen] at hJ
      have had : (⟨ad.block, ad.off, none⟩ : Addr) = ad := by
        obtain ⟨b, o, sp⟩ := ad
        have : sp = none := hsp
        subst this
        rfl
      rw [had] at hJ
      refine Calls.mono hJ ?_
      rintro e w' ⟨rfl, hb⟩
      exact ⟨hb, _, rfl, .str⟩
end Go.Gp.Tryz

/- strings.Split, as a contract of the layer. -/
namespace Go.Gp.Tryz
variable [Inhabited MaxLenT]
open Go.Proofs Go.RowKit
set_option linter.unusedVariables false
set_option linter.unusedSimpArgs false
set_option linter.unusedSectionVars false
set_option maxHeartbeats 4000000

def splitL (s p : List UInt8) : List (List UInt8) := (Lib.splitB ⟨p.toArray⟩ 0 (Lib.countB ⟨s.toArray⟩ ⟨p.toArray⟩) ⟨s.toArray⟩).map (·.data.toList)
theorem strRows_flat (l : List (List UInt8)) : (strRows l).flatten = l.map AV.str := by
  induction l with
  | nil => rfl
  | cons a l ih => rw [strRows, List.map_cons, List.flatten_cons, List.map_cons, ← ih]; rfl
theorem split_A (s p : List UInt8) (H : List AObj) (hs : s.length ≤ 1000000) (hp : 1 ≤ p.length) : CallsA E 127 [.str s, .str p] H (Is H (.sl .no 1 (strRows (splitL s p)))) := by
  refine .lib Tryz.func127 rfl rfl fun c vs hH ho hr => ?_
  obtain rfl := str_args2 hr
  obtain ⟨v, hv, hvr⟩ := glob_cell (g := 0) (a := .int .i64 (default : MaxLenT).v) ho rfl
  cases hvr
  have h1 : 1 ≤ (⟨p.toArray⟩ : ByteArray).size := by rw [ba_size]; exact hp
  have hlen := Lib.splitB_all ⟨p.toArray⟩ h1 0 _ ⟨s.toArray⟩ rfl
  refine (Tryz.strings_Split ⟨s.toArray⟩ ⟨p.toArray⟩ _ c.w (by rw [ba_size]; omega) hv h1).mono ?_
  rintro e w' ⟨rfl, rfl⟩
  unfold splitL
  generalize Lib.splitB ⟨p.toArray⟩ 0 (Lib.countB ⟨s.toArray⟩ ⟨p.toArray⟩) ⟨s.toArray⟩ = bs at *
  generalize Lib.countB ⟨s.toArray⟩ ⟨p.toArray⟩ = n at *
  refine ⟨⟨rfl, rfl, rfl, by rw [heap_alloc_size]; omega, fun k hk => heap_alloc_lt _ _ hk⟩, _, rfl, ?_⟩
  refine mk_sl (c := c.push (.cells (bs.map Value.string).toArray 9)) (ws := bs.map Value.string) ?_ (Nat.le_refl _) (fun x hx => ?_) trivial ?_ (fun k u hk => ?_)
  · rw [strRows, List.length_map, List.length_map]; exact hlen
  · obtain ⟨a, _, rfl⟩ := List.mem_map.1 hx; rfl
  · rw [strRows_flat, List.map_map]
    refine ⟨by simp, fun i a v h1 h2 => ?_⟩
    rw [List.getElem?_map] at h1 h2
    cases hb : bs[i]? with
    | none => rw [hb] at h1; cases h1
    | some b =>
      rw [hb] at h1 h2
      cases h1; cases h2
      exact .str
  · exact new_fz ho.hr (by rw [List.getElem?_toArray]; exact hk)
end Go.Gp.Tryz

/- Lists of strings: the walks. -/
namespace Go.Gp.Tryz
variable [Inhabited MaxLenT]
open Go.Proofs
set_option linter.unusedVariables false
set_option linter.unusedSimpArgs false
set_option linter.unusedSectionVars false
set_option maxHeartbeats 4000000

theorem strRows_len (l : List (List UInt8)) : (strRows l).length = l.length := List.length_map _
theorem strRows_at {l : List (List UInt8)} {i : Nat} (h : i < l.length) : (strRows l)[((i : Nat) : Int).toNat]? = some [.str l[i]] := by
  rw [Int.toNat_natCast]; exact strRows_get h
def idxS (p : List UInt8 → Bool) (l : List (List UInt8)) : Int := match l.findIdx? p with | some k => (k : Nat) | none => -1
theorem idxS_any (p : List UInt8 → Bool) (l : List (List UInt8)) : decide (idxS p l ≥ 0) = l.any p := by
  unfold idxS
  cases h : l.findIdx? p with
  | none =>
    have := List.findIdx?_eq_none_iff.1 h
    rw [show l.any p = false from List.any_eq_false.2 (fun x hx => by simpa using this x hx)]
    rfl
  | some k =>
    have := List.findIdx?_eq_some_iff_getElem.1 h
    obtain ⟨h1, h2, _⟩ := this
    rw [show l.any p = true from List.any_eq_true.2 ⟨l[k], List.getElem_mem h1, h2⟩]
    exact decide_eq_true (Int.natCast_nonneg k)
theorem indexS_A (l : List (List UInt8)) (fv : AV) (p : List UInt8 → Bool) (X : List AObj) (hl : l.length ≤ 1000000) (hf : ∀ L s, s ∈ l → AppA E fv [.str s] (X ++ L) (Is (X ++ L) (.bool (p s)))) :
    CallsA E 59 [.sl .no 1 (strRows l), fv] X (Is X (.int .i64 (idxS p l))) := by
  have hlen := strRows_len l
  refine .enter Tryz.func59 rfl rfl rfl 19 Tryz.ntmps59 (Nat.le_of_ble_eq_true rfl) ?_
  repeat' first
    | refine WpA.seq ?_
    | refine WpA.region ?_
    | refine WpOps.op _ rfl rfl rfl rfl rfl ?_
    | refine WpA.block ?_
    | refine WpOps.nil ?_
  refine WpA.loopS (α := Nat) (fun i => [(0, .sl .no 1 (strRows l)), (1, fv), (7, .int .i64 (l.length : Nat)), (8, .int .i64 (i : Nat))]) (fun _ => X ++ []) (fun i => i ≤ l.length ∧ ∀ j (hj : j < i) (h2 : j < l.length), p l[j] = false) (fun i => l.length - i) 0 ⟨Nat.zero_le _, fun j hj => absurd hj (by omega)⟩ ⟨rfl, rfl, by rw [← hlen]; rfl, rfl, trivial⟩ rfl (fun i hi => ?_)
  obtain ⟨hi1, hi2⟩ := hi
  by_cases hlt : i < l.length
  · have hd : decide (((i : Nat) : Int) < ((l.length : Nat) : Int)) = true := decide_eq_true (by omega)
    have hg := strRows_at hlt
    have happ := hf [] l[i] (List.getElem_mem hlt)
    obtain ⟨s, hs⟩ : ∃ s, l[i] = s := ⟨_, rfl⟩
    obtain ⟨q, hq⟩ : ∃ q, p s = q := ⟨_, rfl⟩
    rw [hs] at hg happ
    rw [hq] at happ
    cases q with
    | true =>
      have hr : idxS p l = (i : Nat) := by
        rw [idxS, List.findIdx?_eq_some_iff_getElem.2 ⟨hlt, by rw [hs]; exact hq, fun j hj => by rw [hi2 j hj (by omega)]; simp⟩]
      rw [hr]
      repeat' first
        | refine WpA.condT (congrArg AV.bool hd) ?_
        | (refine WpOps.elem _ rfl rfl rfl rfl rfl rfl rfl rfl rfl (Int.natCast_nonneg i) hg ?_)
        | (refine WpOps.callV rfl rfl rfl rfl rfl (by exact happ) ?_; rintro _ _ ⟨rfl, rfl⟩)
        | refine WpA.seq ?_
        | refine WpA.region ?_
        | refine WpOps.op _ rfl rfl rfl rfl rfl ?_
        | refine WpA.block ?_
        | refine WpOps.nil ?_
        | refine WpA.ret ?_
        | refine WpA.skip ?_
        | refine WpA.condT rfl ?_
      exact retK.ok rfl rfl rfl .int
    | false =>
      repeat' first
        | refine WpA.condT (congrArg AV.bool hd) ?_
        | (refine WpOps.elem _ rfl rfl rfl rfl rfl rfl rfl rfl rfl (Int.natCast_nonneg i) hg ?_)
        | (refine WpOps.callV rfl rfl rfl rfl rfl (by exact happ) ?_; rintro _ _ ⟨rfl, rfl⟩)
        | refine WpA.seq ?_
        | refine WpA.region ?_
        | refine WpOps.op _ rfl rfl rfl rfl rfl ?_
        | refine WpA.block ?_
        | refine WpOps.nil ?_
        | refine WpA.skip ?_
        | refine WpA.condF rfl ?_
      refine ⟨i + 1, ⟨hlt, fun j hj h2 => ?_⟩, by omega, ⟨rfl, rfl, rfl, congrArg (AV.int .i64) (wrap64 (by omega) (by omega)), trivial⟩, rfl⟩
      rcases Nat.lt_or_ge j i with h | h
      · exact hi2 j h h2
      · have : j = i := by omega
        subst this
        rw [hs]; exact hq
  · have hd : decide (((i : Nat) : Int) < ((l.length : Nat) : Int)) = false := decide_eq_false (by omega)
    have hr : idxS p l = -1 := by
      rw [idxS, List.findIdx?_eq_none_iff.2 (fun x hx => ?_)]
      obtain ⟨j, hj, rfl⟩ := List.mem_iff_getElem.1 hx
      rw [hi2 j (by omega) hj]
    rw [hr]
    repeat' first
      | refine WpA.condF (congrArg AV.bool hd) ?_
      | refine WpA.seq ?_
      | refine WpA.region ?_
      | refine WpOps.op _ rfl rfl rfl rfl rfl ?_
      | refine WpA.exit ?_
      | refine WpOps.nil ?_
      | refine WpA.ret ?_
    exact retK.ok rfl rfl rfl .int
theorem containsS_A (l : List (List UInt8)) (fv : AV) (p : List UInt8 → Bool) (X : List AObj) (hl : l.length ≤ 1000000) (hf : ∀ L s, s ∈ l → AppA E fv [.str s] (X ++ L) (Is (X ++ L) (.bool (p s)))) :
    CallsA E 36 [.sl .no 1 (strRows l), fv] X (Is X (.bool (l.any p))) := by
  have hI : CallsA E 59 [.sl .no 1 (strRows l), fv] (X ++ []) (Is (X ++ []) (.int .i64 (idxS p l))) := indexS_A l fv p (X ++ []) hl (fun L s hs => by have := hf ([] ++ L) s hs; rwa [← List.append_assoc] at this)
  have hr := idxS_any p l
  refine .enter Tryz.func36 rfl rfl rfl 9 Tryz.ntmps36 (Nat.le_of_ble_eq_true rfl) ?_
  rw [← hr]
  generalize idxS p l = k at *
  repeat' first
    | refine WpA.seq ?_
    | refine WpA.region ?_
    | refine WpOps.op _ rfl rfl rfl rfl rfl ?_
    | (refine WpOps.call rfl rfl rfl rfl rfl (by exact hI) ?_; rintro _ _ ⟨rfl, rfl⟩)
    | refine WpOps.nil ?_
    | refine WpA.ret ?_
  exact retK.ok rfl rfl rfl .bool
theorem unless_A (b : Bool) (H : List AObj) : CallsA E 16 [.bool b] H (Is H (.int .i64 (if b then 0 else 8))) := by
  refine .enter Tryz.func16 rfl rfl rfl 4 Tryz.ntmps16 (Nat.le_of_ble_eq_true rfl) ?_
  cases b with
  | true =>
    repeat' first
      | refine WpA.seq ?_
      | refine WpA.region ?_
      | refine WpOps.op _ rfl rfl rfl rfl rfl ?_
      | refine WpOps.nil ?_
      | refine WpA.ret ?_
      | refine WpA.condT rfl ?_
    exact retK.ok rfl rfl rfl .int
  | false =>
    repeat' first
      | refine WpA.seq ?_
      | refine WpA.region ?_
      | refine WpOps.op _ rfl rfl rfl rfl rfl ?_
      | refine WpOps.nil ?_
      | refine WpA.ret ?_
      | refine WpA.skip ?_
      | refine WpA.condF rfl ?_
    exact retK.ok rfl rfl rfl .int
theorem bad_A (e : Int) (b : Bool) (H : List AObj) : CallsA E 18 [.int .i64 e, .bool b] H (Is H (.int .i64 (if e ≠ 0 then e else if b then 0 else 8))) := by
  refine .enter Tryz.func18 rfl rfl rfl 12 Tryz.ntmps18 (Nat.le_of_ble_eq_true rfl) ?_
  cases b with
  | true =>
    repeat' first
      | refine WpA.seq ?_
      | refine WpA.region ?_
      | refine WpOps.op _ rfl rfl rfl rfl rfl ?_
      | refine WpOps.skip rfl rfl rfl ?_
      | refine WpOps.gsplit _ rfl rfl rfl (fun h => ?_) (fun h => ?_)
      | refine WpOps.nil ?_
      | refine WpA.ret ?_
      | refine WpA.skip ?_
      | refine WpA.condF rfl ?_
    all_goals (refine retK.ok rfl rfl (congrArg (AV.int .i64) ?_) .int; simp at *; try (simp [*]; done))
  | false =>
    repeat' first
      | refine WpA.seq ?_
      | refine WpA.region ?_
      | refine WpOps.op _ rfl rfl rfl rfl rfl ?_
      | refine WpOps.skip rfl rfl rfl ?_
      | refine WpOps.gsplit _ rfl rfl rfl (fun h => ?_) (fun h => ?_)
      | refine WpOps.nil ?_
      | refine WpA.ret ?_
      | refine WpA.skip ?_
      | refine WpA.condT rfl ?_
      | refine WpA.condF rfl ?_
    all_goals (refine retK.ok rfl rfl (congrArg (AV.int .i64) ?_) .int; simp at *; try (simp [*]; done))
def usualP (k : Int) : Int := if k = 1 then 873 else 443
theorem usual_A (k : Int) (H : List AObj) : CallsA E 114 [.int .u8 k] H (Is H (.int .i64 (usualP k))) := by
  refine .enter Tryz.func114 rfl rfl rfl 5 Tryz.ntmps114 (Nat.le_of_ble_eq_true rfl) ?_
  repeat' first
    | refine WpA.seq ?_
    | refine WpA.region ?_
    | refine WpOps.op _ rfl rfl rfl rfl rfl ?_
    | refine WpOps.nil ?_
    | refine WpA.ret ?_
    | refine WpA.skip ?_
    | refine WpA.cond _ rfl (fun h => ?_) (fun h => ?_)
  all_goals (refine retK.ok rfl rfl (congrArg (AV.int .i64) ?_) .int; simp at *; simp [usualP, *])
end Go.Gp.Tryz

/- The reference of locators: until. -/
namespace Go.Gp.Tryz
variable [Inhabited MaxLenT]
open Go.Proofs
set_option linter.unusedVariables false
set_option linter.unusedSimpArgs false
set_option linter.unusedSectionVars false
set_option maxHeartbeats 4000000

/-- The place of the first of two bytes from a place on, or the length. -/
def untilN (s : List UInt8) (a b : UInt8) (i : Nat) : Nat := i + (s.drop i).findIdx (fun c => c == a || c == b)
theorem untilN_hit {s : List UInt8} {a b : UInt8} {i : Nat} (h : i < s.length) (hc : (s[i] == a || s[i] == b) = true) : untilN s a b i = i := by
  rw [untilN, List.drop_eq_getElem_cons h, List.findIdx_cons, hc]; rfl
theorem untilN_next {s : List UInt8} {a b : UInt8} {i : Nat} (h : i < s.length) (hc : (s[i] == a || s[i] == b) = false) : untilN s a b i = untilN s a b (i + 1) := by
  rw [untilN, List.drop_eq_getElem_cons h, List.findIdx_cons, hc, untilN]
  simp only [cond_false]
  omega
theorem untilN_end {s : List UInt8} {a b : UInt8} {i : Nat} (h : i = s.length) : untilN s a b i = i := by
  rw [untilN, List.drop_eq_nil_of_le (by omega)]; rfl
theorem until_A (s : List UInt8) (a b : UInt8) (i0 : Nat) (H : List AObj) (hs : s.length ≤ 1000000) (h0 : i0 ≤ s.length) : CallsA E 89 [.str s, .int .i64 (i0 : Nat), u8 a, u8 b] H (Is H (.int .i64 (untilN s a b i0 : Nat))) := by
  obtain ⟨R, hR⟩ : ∃ R, untilN s a b i0 = R := ⟨_, rfl⟩
  rw [hR]
  refine .enter Tryz.func89 rfl rfl rfl 30 Tryz.ntmps89 (Nat.le_of_ble_eq_true rfl) ?_
  repeat' first
    | refine WpA.seq ?_
    | refine WpA.region ?_
    | refine WpOps.op _ rfl rfl rfl rfl rfl ?_
    | refine WpA.block ?_
    | refine WpOps.nil ?_
  refine WpA.loopS (α := Nat) (fun i => [(0, .str s), (1, .int .i64 (i : Nat)), (2, u8 a), (3, u8 b)]) (fun _ => H ++ []) (fun i => i ≤ s.length ∧ untilN s a b i = R) (fun i => s.length - i) i0 ⟨h0, hR⟩ ⟨rfl, rfl, rfl, rfl, trivial⟩ rfl (fun i hi => ?_)
  obtain ⟨hi1, hi2⟩ := hi
  by_cases hlt : i < s.length
  · have hd : decide (((i : Nat) : Int) < ((s.length : Nat) : Int)) = true := decide_eq_true (by omega)
    have hgf : ¬ (decide (((i : Nat) : Int) < ((s.length : Nat) : Int)) = false) := by rw [hd]; decide
    have hn : ∀ x y : UInt8, (((x.toNat : Nat) : Int) != ((y.toNat : Nat) : Int)) = !(x == y) := fun x y => by
      by_cases h : x = y
      · subst h; rw [bne, beq_self_eq_true, beq_self_eq_true]
      · have : ¬ ((x.toNat : Nat) : Int) = ((y.toNat : Nat) : Int) := fun e => h (UInt8.toNat_inj.1 (by omega))
        rw [bne, beq_false_of_ne this, beq_false_of_ne h]
    have hhit := untilN_hit (a := a) (b := b) hlt
    have hnext := untilN_next (a := a) (b := b) hlt
    obtain ⟨c, hc⟩ : ∃ c, s[i] = c := ⟨_, rfl⟩
    rw [hc] at hhit hnext
    repeat' first
      | exact absurd (by assumption) hgf
      | (refine WpOps.indexS s[i] rfl rfl rfl rfl rfl rfl rfl (Int.natCast_nonneg i) (by simp) ?_; rw [hc])
      | refine WpA.seq ?_
      | refine WpA.region ?_
      | refine WpOps.op _ rfl rfl rfl rfl rfl ?_
      | refine WpOps.skip rfl rfl rfl ?_
      | refine WpOps.gsplit _ rfl rfl rfl (fun h => ?_) (fun h => ?_)
      | refine WpA.block ?_
      | refine WpA.exit ?_
      | refine WpOps.nil ?_
      | refine WpA.ret ?_
      | refine WpA.skip ?_
      | refine WpA.condF rfl ?_
      | refine WpA.cond _ rfl (fun h => ?_) (fun h => ?_)
    · rename_i g0 g1
      have k1 : (!(c == a)) = true := (hn c a).symm.trans g1
      have k2 : (!(c == b)) = true := (hn c b).symm.trans h
      have hf : (c == a || c == b) = false := by simp at k1 k2; simp [k1, k2]
      exact ⟨i + 1, ⟨hlt, by rw [← hnext hf]; exact hi2⟩, by omega, ⟨rfl, congrArg (AV.int .i64) (wrap64 (by omega) (by omega)), rfl, rfl, trivial⟩, rfl⟩
    · have k2 : (!(c == b)) = false := (hn c b).symm.trans h
      have : R = i := by rw [← hi2]; exact hhit (by simp at k2; simp [k2])
      rw [this]
      exact retK.ok rfl rfl rfl .int
    · have k2 : (!(c == a)) = false := (hn c a).symm.trans h
      have : R = i := by rw [← hi2]; exact hhit (by simp at k2; simp [k2])
      rw [this]
      exact retK.ok rfl rfl rfl .int
  · have hd : decide (((i : Nat) : Int) < ((s.length : Nat) : Int)) = false := decide_eq_false (by omega)
    have hgt : ¬ (decide (((i : Nat) : Int) < ((s.length : Nat) : Int)) = true) := by rw [hd]; decide
    have hiR : i = R := by rw [← hi2, untilN_end (by omega)]
    subst hiR
    repeat' first
      | exact absurd (by assumption) hgt
      | refine WpA.seq ?_
      | refine WpA.region ?_
      | refine WpOps.op _ rfl rfl rfl rfl rfl ?_
      | refine WpOps.skip rfl rfl rfl ?_
      | refine WpOps.gsplit _ rfl rfl rfl (fun h => ?_) (fun h => ?_)
      | refine WpA.exit ?_
      | refine WpOps.nil ?_
      | refine WpA.ret ?_
      | refine WpA.condF rfl ?_
    exact retK.ok rfl rfl rfl .int
end Go.Gp.Tryz
