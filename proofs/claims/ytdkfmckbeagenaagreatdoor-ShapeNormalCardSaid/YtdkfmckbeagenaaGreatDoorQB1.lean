/-
  The tables of numbers of the library's contracts at this program (laid by the kit's tools).
 The tables of numbers of the library's contracts at this program (laid by the kit's tools).
 strings.Split, ToLower, Compare at this program: the library's contracts.
-/
import Derived.Shelf.Lays
import Derived.Shelf.LaysM
import Derived.Shelf.Strings.SplitShaped
import Derived.Shelf.Strings.OnBuilder
import Derived.Shelf.Small.Strs
import Derived.Test.YtdkfmckbeagenaaGreatDoorProg
import Derived.Shelf.SlLaysF0
import Derived.Ground.SlsfProg
import Derived.Test.YtdkfmckbeagenaaGreatDoorQA1
import Derived.Test.YtdkfmckbeagenaaGreatDoorQA2
namespace Go.Proofs.YtdkfmckbeagenaaGreatDoor
open Go.Shelf
def lm146_ren : Go.Shelf.Ren := ⟨fun | 146 => 77 | 221 => 115 | 268 => 141 | 138 => 142 | 143 => 143 | 195 => 160 | 197 => 118 | 218 => 161 | 219 => 162 | 260 => 146 | 217 => 178 | 225 => 179 | 224 => 180 | 267 => 181 | 266 => 188 | 314 => 189 | n => n, fun | 9 => 9 | 31 => 24 | 3 => 3 | 4 => 4 | 0 => 0 | 105 => 175 | 21 => 21 | 5 => 5 | 46 => 97 | 119 => 213 | 139 => 216 | 138 => 215 | 146 => 234 | 51 => 148 | n => n, fun | 1 => 1 | 3 => 3 | 4 => 4 | n => n⟩
theorem lm146 : Go.Proofs.LaysM.n146 Tryz.prog lm146_ren := {
 mixed := by kernel_rfl
 f138 := Tryz.func142.trans (congrArg some (by kernel_rfl))
 f143 := Tryz.func143.trans (congrArg some (by kernel_rfl))
 f146 := Tryz.func77.trans (congrArg some (by kernel_rfl))
 f195 := Tryz.func160.trans (congrArg some (by kernel_rfl))
 f197 := Tryz.func118.trans (congrArg some (by kernel_rfl))
 f217 := Tryz.func178.trans (congrArg some (by kernel_rfl))
 f218 := Tryz.func161.trans (congrArg some (by kernel_rfl))
 f219 := Tryz.func162.trans (congrArg some (by kernel_rfl))
 f221 := Tryz.func115.trans (congrArg some (by kernel_rfl))
 f224 := Tryz.func180.trans (congrArg some (by kernel_rfl))
 f225 := Tryz.func179.trans (congrArg some (by kernel_rfl))
 f260 := Tryz.func146.trans (congrArg some (by kernel_rfl))
 f266 := Tryz.func188.trans (congrArg some (by kernel_rfl))
 f267 := Tryz.func181.trans (congrArg some (by kernel_rfl))
 f268 := Tryz.func141.trans (congrArg some (by kernel_rfl))
 f314 := Tryz.func189.trans (congrArg some (by kernel_rfl))
 t0 := Tryz.underlying0
 a0 := Tryz.isAgg0
 z0 := Tryz.sizeOf0
 v0 := Tryz.zeroValue0
 t3 := Tryz.underlying3
 a3 := Tryz.isAgg3
 z3 := Tryz.sizeOf3
 v3 := Tryz.zeroValue3
 t4 := Tryz.underlying4
 a4 := Tryz.isAgg4
 z4 := Tryz.sizeOf4
 v4 := Tryz.zeroValue4
 t5 := Tryz.underlying5
 a5 := Tryz.isAgg5
 z5 := Tryz.sizeOf5
 v5 := Tryz.zeroValue5
 t9 := Tryz.underlying9
 a9 := Tryz.isAgg9
 z9 := Tryz.sizeOf9
 v9 := Tryz.zeroValue9
 t21 := Tryz.underlying21
 a21 := Tryz.isAgg21
 z21 := Tryz.sizeOf21
 v21 := Tryz.zeroValue21
 t31 := Tryz.underlying24
 a31 := Tryz.isAgg24
 z31 := Tryz.sizeOf24
 v31 := Tryz.zeroValue24
 t46 := Tryz.underlying97
 a46 := Tryz.isAgg97
 z46 := Tryz.sizeOf97
 v46 := Tryz.zeroValue97
 t51 := Tryz.underlying148
 a51 := Tryz.isAgg148
 z51 := Tryz.sizeOf148
 v51 := Tryz.zeroValue148
 t105 := Tryz.underlying175
 a105 := Tryz.isAgg175
 z105 := Tryz.sizeOf175
 v105 := Tryz.zeroValue175
 t119 := Tryz.underlying213
 a119 := Tryz.isAgg213
 z119 := Tryz.sizeOf213
 t138 := Tryz.underlying215
 a138 := Tryz.isAgg215
 z138 := Tryz.sizeOf215
 v138 := Tryz.zeroValue215
 t139 := Tryz.underlying216
 a139 := Tryz.isAgg216
 z139 := Tryz.sizeOf216
 v139 := Tryz.zeroValue216
 t146 := Tryz.underlying234
 a146 := Tryz.isAgg234
 z146 := Tryz.sizeOf234
 v146 := Tryz.zeroValue234
 g1 := by kernel_rfl
 g3 := by kernel_rfl
 g4 := by kernel_rfl
 i0 := by kernel_rfl
 i3 := by kernel_rfl
 i4 := by kernel_rfl
 i5 := by kernel_rfl
 i9 := by kernel_rfl
 i21 := by kernel_rfl
 i31 := by kernel_rfl
 i46 := by kernel_rfl
 i51 := by kernel_rfl
 i105 := by kernel_rfl
 i138 := by kernel_rfl
 i139 := by kernel_rfl
 i146 := by kernel_rfl
 m1 := by kernel_rfl
 s1_3 := fun w h => Go.Proofs.cell_of_shapedOpen_int (zero := #[.int .i64 0]) (t := 3) h (of_decide_eq_true (by kernel_rfl)) (by kernel_rfl) rfl (by kernel_rfl) (by kernel_rfl) Tryz.underlying3
 m3 := by kernel_rfl
 m4 := by kernel_rfl }
def l159_ren : Go.Shelf.Ren := ⟨fun | 159 => 56 | 165 => 82 | 166 => 83 | 167 => 84 | 169 => 85 | 230 => 86 | 204 => 87 | 240 => 116 | 241 => 117 | 197 => 118 | 118 => 119 | 168 => 120 | 270 => 121 | 262 => 122 | 276 => 144 | 277 => 145 | 260 => 146 | 242 => 147 | 313 => 148 | 278 => 163 | 274 => 164 | 275 => 165 | n => n, fun | 9 => 9 | 4 => 4 | 3 => 3 | 5 => 5 | 72 => 130 | 0 => 0 | 76 => 134 | 75 => 133 | 107 => 139 | 70 => 127 | 20 => 20 | 37 => 128 | 127 => 174 | 21 => 21 | 105 => 175 | 164 => 193 | 162 => 199 | 203 => 197 | 119 => 213 | 46 => 97 | 139 => 216 | 138 => 215 | 51 => 148 | 160 => 217 | 208 => 230 | 206 => 228 | 80 => 137 | n => n, fun | 13 => 2 | 3 => 3 | 4 => 4 | n => n⟩
theorem l159 : Go.Proofs.Lays.n159 Tryz.prog l159_ren := {
 mixed := by kernel_rfl
 f118 := Tryz.func119.trans (congrArg some (by kernel_rfl))
 f159 := Tryz.func56.trans (congrArg some (by kernel_rfl))
 f165 := Tryz.func82.trans (congrArg some (by kernel_rfl))
 f166 := Tryz.func83.trans (congrArg some (by kernel_rfl))
 f167 := Tryz.func84.trans (congrArg some (by kernel_rfl))
 f168 := Tryz.func120.trans (congrArg some (by kernel_rfl))
 f169 := Tryz.func85.trans (congrArg some (by kernel_rfl))
 f197 := Tryz.func118.trans (congrArg some (by kernel_rfl))
 f204 := Tryz.func87.trans (congrArg some (by kernel_rfl))
 f230 := Tryz.func86.trans (congrArg some (by kernel_rfl))
 f240 := Tryz.func116.trans (congrArg some (by kernel_rfl))
 f241 := Tryz.func117.trans (congrArg some (by kernel_rfl))
 f242 := Tryz.func147.trans (congrArg some (by kernel_rfl))
 f260 := Tryz.func146.trans (congrArg some (by kernel_rfl))
 f262 := Tryz.func122.trans (congrArg some (by kernel_rfl))
 f270 := Tryz.func121.trans (congrArg some (by kernel_rfl))
 f274 := Tryz.func164.trans (congrArg some (by kernel_rfl))
 f275 := Tryz.func165.trans (congrArg some (by kernel_rfl))
 f276 := Tryz.func144.trans (congrArg some (by kernel_rfl))
 f277 := Tryz.func145.trans (congrArg some (by kernel_rfl))
 f278 := Tryz.func163.trans (congrArg some (by kernel_rfl))
 f313 := Tryz.func148.trans (congrArg some (by kernel_rfl))
 t0 := Tryz.underlying0
 a0 := Tryz.isAgg0
 z0 := Tryz.sizeOf0
 v0 := Tryz.zeroValue0
 t3 := Tryz.underlying3
 a3 := Tryz.isAgg3
 z3 := Tryz.sizeOf3
 v3 := Tryz.zeroValue3
 t4 := Tryz.underlying4
 a4 := Tryz.isAgg4
 z4 := Tryz.sizeOf4
 v4 := Tryz.zeroValue4
 t5 := Tryz.underlying5
 a5 := Tryz.isAgg5
 z5 := Tryz.sizeOf5
 v5 := Tryz.zeroValue5
 t9 := Tryz.underlying9
 a9 := Tryz.isAgg9
 z9 := Tryz.sizeOf9
 v9 := Tryz.zeroValue9
 t20 := Tryz.underlying20
 a20 := Tryz.isAgg20
 z20 := Tryz.sizeOf20
 v20 := Tryz.zeroValue20
 t21 := Tryz.underlying21
 a21 := Tryz.isAgg21
 z21 := Tryz.sizeOf21
 v21 := Tryz.zeroValue21
 t37 := Tryz.underlying128
 a37 := Tryz.isAgg128
 z37 := Tryz.sizeOf128
 v37 := Tryz.zeroValue128
 t46 := Tryz.underlying97
 a46 := Tryz.isAgg97
 z46 := Tryz.sizeOf97
 v46 := Tryz.zeroValue97
 t51 := Tryz.underlying148
 a51 := Tryz.isAgg148
 z51 := Tryz.sizeOf148
 v51 := Tryz.zeroValue148
 t70 := Tryz.underlying127
 a70 := Tryz.isAgg127
 z70 := Tryz.sizeOf127
 v70 := Tryz.zeroValue127
 t72 := Tryz.underlying130
 a72 := Tryz.isAgg130
 z72 := Tryz.sizeOf130
 v72 := Tryz.zeroValue130
 t75 := Tryz.underlying133
 a75 := Tryz.isAgg133
 z75 := Tryz.sizeOf133
 v75 := Tryz.zeroValue133
 t76 := Tryz.underlying134
 a76 := Tryz.isAgg134
 z76 := Tryz.sizeOf134
 v76 := Tryz.zeroValue134
 t105 := Tryz.underlying175
 a105 := Tryz.isAgg175
 z105 := Tryz.sizeOf175
 v105 := Tryz.zeroValue175
 t107 := Tryz.underlying139
 a107 := Tryz.isAgg139
 z107 := Tryz.sizeOf139
 v107 := Tryz.zeroValue139
 t119 := Tryz.underlying213
 a119 := Tryz.isAgg213
 z119 := Tryz.sizeOf213
 t127 := Tryz.underlying174
 a127 := Tryz.isAgg174
 z127 := Tryz.sizeOf174
 v127 := Tryz.zeroValue174
 t138 := Tryz.underlying215
 a138 := Tryz.isAgg215
 z138 := Tryz.sizeOf215
 v138 := Tryz.zeroValue215
 t139 := Tryz.underlying216
 a139 := Tryz.isAgg216
 z139 := Tryz.sizeOf216
 v139 := Tryz.zeroValue216
 t160 := Tryz.underlying217
 a160 := Tryz.isAgg217
 z160 := Tryz.sizeOf217
 v160 := Tryz.zeroValue217
 t162 := Tryz.underlying199
 a162 := Tryz.isAgg199
 z162 := Tryz.sizeOf199
 v162 := Tryz.zeroValue199
 t164 := Tryz.underlying193
 a164 := Tryz.isAgg193
 z164 := Tryz.sizeOf193
 v164 := Tryz.zeroValue193
 t203 := Tryz.underlying197
 a203 := Tryz.isAgg197
 z203 := Tryz.sizeOf197
 v203 := Tryz.zeroValue197
 t206 := Tryz.underlying228
 a206 := Tryz.isAgg228
 z206 := Tryz.sizeOf228
 v206 := Tryz.zeroValue228
 t208 := Tryz.underlying230
 a208 := Tryz.isAgg230
 z208 := Tryz.sizeOf230
 v208 := Tryz.zeroValue230
 g3 := by kernel_rfl
 g4 := by kernel_rfl
 g13 := by kernel_rfl }
def l106_ren : Go.Shelf.Ren := ⟨fun | 106 => 65 | 213 => 101 | 265 => 133 | n => n, fun | 9 => 9 | 3 => 3 | n => n, fun | n => n⟩
theorem l106 : Go.Proofs.Lays.n106 Tryz.prog l106_ren := {
 mixed := by kernel_rfl
 f106 := Tryz.func65.trans (congrArg some (by kernel_rfl))
 f213 := Tryz.func101.trans (congrArg some (by kernel_rfl))
 f265 := Tryz.func133.trans (congrArg some (by kernel_rfl))
 t3 := Tryz.underlying3
 a3 := Tryz.isAgg3
 z3 := Tryz.sizeOf3
 v3 := Tryz.zeroValue3
 t9 := Tryz.underlying9
 a9 := Tryz.isAgg9
 z9 := Tryz.sizeOf9
 v9 := Tryz.zeroValue9 }
end Go.Proofs.YtdkfmckbeagenaaGreatDoor

namespace Go.Proofs.YtdkfmckbeagenaaGreatDoor
open Go.Shelf
def sortF_ren : Go.Shelf.Ren := ⟨fun | 6 => 43 | 15 => 63 | 14 => 62 | 28 => 99 | 29 => 100 | 20 => 91 | 21 => 92 | 22 => 93 | 23 => 94 | 24 => 95 | 25 => 96 | 26 => 97 | 27 => 98 | 46 => 128 | 47 => 129 | 48 => 130 | 49 => 131 | 50 => 132 | 57 => 149 | n => n, fun | 22 => 23 | 24 => 26 | 25 => 41 | 3 => 3 | 39 => 97 | 0 => 0 | 53 => 148 | 55 => 150 | 4 => 4 | 46 => 142 | 45 => 141 | 50 => 88 | 5 => 5 | 9 => 9 | 66 => 182 | 70 => 186 | 76 => 200 | 77 => 201 | n => n, fun | n => n⟩
theorem sortF : Go.Proofs.SlLaysF0.n6 Tryz.prog sortF_ren := {
 mixed := by kernel_rfl
 f6 := ⟨Tryz.f43.name, by decide, Tryz.func43.trans (congrArg some (by kernel_rfl))⟩
 f14 := ⟨Tryz.f62.name, by decide, Tryz.func62.trans (congrArg some (by kernel_rfl))⟩
 f15 := Tryz.func63.trans (congrArg some (by kernel_rfl))
 f20 := ⟨Tryz.f91.name, by decide, Tryz.func91.trans (congrArg some (by kernel_rfl))⟩
 f21 := ⟨Tryz.f92.name, by decide, Tryz.func92.trans (congrArg some (by kernel_rfl))⟩
 f22 := ⟨Tryz.f93.name, by decide, Tryz.func93.trans (congrArg some (by kernel_rfl))⟩
 f23 := ⟨Tryz.f94.name, by decide, Tryz.func94.trans (congrArg some (by kernel_rfl))⟩
 f24 := ⟨Tryz.f95.name, by decide, Tryz.func95.trans (congrArg some (by kernel_rfl))⟩
 f25 := ⟨Tryz.f96.name, by decide, Tryz.func96.trans (congrArg some (by kernel_rfl))⟩
 f26 := ⟨Tryz.f97.name, by decide, Tryz.func97.trans (congrArg some (by kernel_rfl))⟩
 f27 := ⟨Tryz.f98.name, by decide, Tryz.func98.trans (congrArg some (by kernel_rfl))⟩
 f28 := Tryz.func99.trans (congrArg some (by kernel_rfl))
 f29 := Tryz.func100.trans (congrArg some (by kernel_rfl))
 f46 := ⟨Tryz.f128.name, by decide, Tryz.func128.trans (congrArg some (by kernel_rfl))⟩
 f47 := Tryz.func129.trans (congrArg some (by kernel_rfl))
 f48 := Tryz.func130.trans (congrArg some (by kernel_rfl))
 f49 := ⟨Tryz.f131.name, by decide, Tryz.func131.trans (congrArg some (by kernel_rfl))⟩
 f50 := ⟨Tryz.f132.name, by decide, Tryz.func132.trans (congrArg some (by kernel_rfl))⟩
 f57 := ⟨Tryz.f149.name, by decide, Tryz.func149.trans (congrArg some (by kernel_rfl))⟩
 t0 := Tryz.underlying0
 a0 := Tryz.isAgg0
 z0 := Tryz.sizeOf0
 v0 := Tryz.zeroValue0
 t3 := Tryz.underlying3
 a3 := Tryz.isAgg3
 z3 := Tryz.sizeOf3
 v3 := Tryz.zeroValue3
 t4 := Tryz.underlying4
 a4 := Tryz.isAgg4
 z4 := Tryz.sizeOf4
 v4 := Tryz.zeroValue4
 t5 := Tryz.underlying5
 a5 := Tryz.isAgg5
 z5 := Tryz.sizeOf5
 v5 := Tryz.zeroValue5
 t9 := Tryz.underlying9
 a9 := Tryz.isAgg9
 z9 := Tryz.sizeOf9
 v9 := Tryz.zeroValue9
 t22 := Tryz.underlying23
 a22 := Tryz.isAgg23
 z22 := Tryz.sizeOf23
 v22 := Tryz.zeroValue23
 t25 := Tryz.underlying41
 a25 := Tryz.isAgg41
 z25 := Tryz.sizeOf41
 v25 := Tryz.zeroValue41
 t39 := Tryz.underlying97
 a39 := Tryz.isAgg97
 z39 := Tryz.sizeOf97
 v39 := Tryz.zeroValue97
 t45 := Tryz.underlying141
 a45 := Tryz.isAgg141
 z45 := Tryz.sizeOf141
 v45 := Tryz.zeroValue141
 t46 := Tryz.underlying142
 a46 := Tryz.isAgg142
 z46 := Tryz.sizeOf142
 v46 := Tryz.zeroValue142
 t50 := Tryz.underlying88
 a50 := Tryz.isAgg88
 z50 := Tryz.sizeOf88
 v50 := Tryz.zeroValue88
 t53 := Tryz.underlying148
 a53 := Tryz.isAgg148
 z53 := Tryz.sizeOf148
 v53 := Tryz.zeroValue148
 t55 := Tryz.underlying150
 a55 := Tryz.isAgg150
 z55 := Tryz.sizeOf150
 v55 := Tryz.zeroValue150
 t66 := Tryz.underlying182
 a66 := Tryz.isAgg182
 z66 := Tryz.sizeOf182
 v66 := Tryz.zeroValue182
 t70 := Tryz.underlying186
 a70 := Tryz.isAgg186
 z70 := Tryz.sizeOf186
 v70 := Tryz.zeroValue186
 t76 := Tryz.underlying200
 a76 := Tryz.isAgg200
 z76 := Tryz.sizeOf200
 v76 := Tryz.zeroValue200
 t77 := Tryz.underlying201
 a77 := Tryz.isAgg201
 z77 := Tryz.sizeOf201
 v77 := Tryz.zeroValue201 }
end Go.Proofs.YtdkfmckbeagenaaGreatDoor

namespace Go.Proofs.YtdkfmckbeagenaaGreatDoor
open Go.RowKit Go.FltLaw Go.Lib

def MaxVar (w : World) : Prop := ∃ m, w.cell? ⟨1, 0, none⟩ = some (.int .i64 m)
theorem MaxVar.below {B : Nat} {w w' : World} (h : MaxVar w) (hb : Below B w w') (hB : 1 < B) : MaxVar w' := let ⟨m, hm⟩ := h; ⟨m, (hb.cell (p := ⟨1, 0, none⟩) hB).trans hm⟩
theorem maxVar_of {w : World} (h : w.ShapedOpen Tryz.prog) : MaxVar w := lm146.s1_3 w h
theorem txts_of (l : List ByteArray) (m : List (List UInt8)) (h : l.map (·.data.toList) = m) : l.map Value.string = m.map txt := by
 subst h
 rw [List.map_map]
 refine List.map_congr_left fun s _ => ?_
 simp [txt]
theorem split_c (c : UInt8) (l : List UInt8) (w : World) (hl : l.length < 4294967281) (hm : MaxVar w) :
  Calls Tryz.prog 77 #[.string ⟨l.toArray⟩, .string ⟨#[c]⟩] w fun e w' => e = .returned (.slice (some ⟨w.heap.size, 0, none⟩) (pieces c l).length (pieces c l).length) ∧ w' = w.alloc (.cells ((pieces c l).map txt).toArray 9) := by
 obtain ⟨m, hm⟩ := hm
 refine (Go.Proofs.Any.strings_Split { lm146 with } lm146.i9 ⟨l.toArray⟩ ⟨#[c]⟩ m w (by show l.toArray.size < _; simpa using hl) hm (Nat.le_refl 1)).mono fun e w' ⟨h1, h2⟩ => ?_
 have e1 := split_pieces c l
 have e2 : Lib.countB ⟨l.toArray⟩ ⟨#[c]⟩ + 1 = (pieces c l).length := by
  rw [pieces_length]
  show Lib.count l [c] + 1 = _
  rw [Lib.count_one]
 rw [e2] at h1
 rw [txts_of _ _ e1] at h2
 exact ⟨h1, h2⟩
end Go.Proofs.YtdkfmckbeagenaaGreatDoor
