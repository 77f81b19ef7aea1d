/-
  Texts joined: Types, Plain.
-/
import Derived.Test.YtdjcjjodbniebaaGreatDoorJoin01
import Derived.Test.YtdjcjjodbniebaaGreatDoorProg
namespace Go.Proofs.YtdjcjjodbniebaaGreatDoor
@[go_sem] theorem shape1 : shapeOf Tryz.prog 1 = some none := by kernel_rfl
@[go_sem] theorem shape2 : shapeOf Tryz.prog 2 = some none := by kernel_rfl
@[go_sem] theorem shape3 : shapeOf Tryz.prog 3 = some none := by kernel_rfl
@[go_sem] theorem shape4 : shapeOf Tryz.prog 4 = some none := by kernel_rfl
@[go_sem] theorem shape5 : shapeOf Tryz.prog 5 = some none := by kernel_rfl
@[go_sem] theorem shape6 : shapeOf Tryz.prog 6 = some none := by kernel_rfl
@[go_sem] theorem shape7 : shapeOf Tryz.prog 7 = some (some 4) := by kernel_rfl
@[go_sem] theorem shape8 : shapeOf Tryz.prog 8 = some (some 4) := by kernel_rfl
@[go_sem] theorem shape9 : shapeOf Tryz.prog 9 = some none := by kernel_rfl
@[go_sem] theorem shape10 : shapeOf Tryz.prog 10 = some none := by kernel_rfl
@[go_sem] theorem shape11 : shapeOf Tryz.prog 11 = some none := by kernel_rfl
@[go_sem] theorem shape12 : shapeOf Tryz.prog 12 = some none := by kernel_rfl
@[go_sem] theorem shape13 : shapeOf Tryz.prog 13 = some (some 2) := by kernel_rfl
@[go_sem] theorem shape14 : shapeOf Tryz.prog 14 = some (some 2) := by kernel_rfl
@[go_sem] theorem shape15 : shapeOf Tryz.prog 15 = some none := by kernel_rfl
@[go_sem] theorem shape16 : shapeOf Tryz.prog 16 = some none := by kernel_rfl
@[go_sem] theorem shape17 : shapeOf Tryz.prog 17 = some none := by kernel_rfl
@[go_sem] theorem shape18 : shapeOf Tryz.prog 18 = some (some 1) := by kernel_rfl
@[go_sem] theorem shape19 : shapeOf Tryz.prog 19 = some (some 1) := by kernel_rfl
@[go_sem] theorem shape20 : shapeOf Tryz.prog 20 = some none := by kernel_rfl
@[go_sem] theorem shape21 : shapeOf Tryz.prog 21 = some none := by kernel_rfl
@[go_sem] theorem shape22 : shapeOf Tryz.prog 22 = some none := by kernel_rfl
@[go_sem] theorem shape23 : shapeOf Tryz.prog 23 = some none := by kernel_rfl
@[go_sem] theorem shape24 : shapeOf Tryz.prog 24 = some none := by kernel_rfl
@[go_sem] theorem shape25 : shapeOf Tryz.prog 25 = some none := by kernel_rfl
@[go_sem] theorem shape26 : shapeOf Tryz.prog 26 = some (some 32) := by kernel_rfl
@[go_sem] theorem shape27 : shapeOf Tryz.prog 27 = some (some 32) := by kernel_rfl
@[go_sem] theorem shape28 : shapeOf Tryz.prog 28 = some (some 34) := by kernel_rfl
@[go_sem] theorem shape29 : shapeOf Tryz.prog 29 = some (some 34) := by kernel_rfl
@[go_sem] theorem shape30 : shapeOf Tryz.prog 30 = some none := by kernel_rfl
@[go_sem] theorem shape31 : shapeOf Tryz.prog 31 = some none := by kernel_rfl
@[go_sem] theorem shape32 : shapeOf Tryz.prog 32 = some none := by kernel_rfl
@[go_sem] theorem shape34 : shapeOf Tryz.prog 34 = some none := by kernel_rfl
@[go_sem] theorem shape35 : shapeOf Tryz.prog 35 = some none := by kernel_rfl
@[go_sem] theorem shape36 : shapeOf Tryz.prog 36 = some none := by kernel_rfl
@[go_sem] theorem shape37 : shapeOf Tryz.prog 37 = some none := by kernel_rfl
@[go_sem] theorem shape38 : shapeOf Tryz.prog 38 = some none := by kernel_rfl
@[go_sem] theorem shape39 : shapeOf Tryz.prog 39 = some none := by kernel_rfl
@[go_sem] theorem shape40 : shapeOf Tryz.prog 40 = some none := by kernel_rfl
@[go_sem] theorem shape41 : shapeOf Tryz.prog 41 = some none := by kernel_rfl
@[go_sem] theorem shape43 : shapeOf Tryz.prog 43 = some none := by kernel_rfl
@[go_sem] theorem shape44 : shapeOf Tryz.prog 44 = some none := by kernel_rfl
@[go_sem] theorem shape45 : shapeOf Tryz.prog 45 = some none := by kernel_rfl
@[go_sem] theorem shape46 : shapeOf Tryz.prog 46 = some none := by kernel_rfl
@[go_sem] theorem shape47 : shapeOf Tryz.prog 47 = some none := by kernel_rfl
@[go_sem] theorem shape48 : shapeOf Tryz.prog 48 = some none := by kernel_rfl
@[go_sem] theorem shape49 : shapeOf Tryz.prog 49 = some none := by kernel_rfl
@[go_sem] theorem shape50 : shapeOf Tryz.prog 50 = some none := by kernel_rfl
@[go_sem] theorem shape51 : shapeOf Tryz.prog 51 = some (some 8) := by kernel_rfl
@[go_sem] theorem shape52 : shapeOf Tryz.prog 52 = some (some 8) := by kernel_rfl
@[go_sem] theorem shape54 : shapeOf Tryz.prog 54 = some none := by kernel_rfl
@[go_sem] theorem shape55 : shapeOf Tryz.prog 55 = some none := by kernel_rfl
@[go_sem] theorem shape56 : shapeOf Tryz.prog 56 = some none := by kernel_rfl
@[go_sem] theorem shape57 : shapeOf Tryz.prog 57 = some none := by kernel_rfl
@[go_sem] theorem shape59 : shapeOf Tryz.prog 59 = some none := by kernel_rfl
@[go_sem] theorem shape60 : shapeOf Tryz.prog 60 = some (some 3) := by kernel_rfl
@[go_sem] theorem shape61 : shapeOf Tryz.prog 61 = some none := by kernel_rfl
@[go_sem] theorem shape63 : shapeOf Tryz.prog 63 = some none := by kernel_rfl
@[go_sem] theorem shape64 : shapeOf Tryz.prog 64 = some none := by kernel_rfl
@[go_sem] theorem shape65 : shapeOf Tryz.prog 65 = some none := by kernel_rfl
@[go_sem] theorem shape66 : shapeOf Tryz.prog 66 = some none := by kernel_rfl
@[go_sem] theorem shape67 : shapeOf Tryz.prog 67 = some none := by kernel_rfl
@[go_sem] theorem shape68 : shapeOf Tryz.prog 68 = some none := by kernel_rfl
@[go_sem] theorem shape69 : shapeOf Tryz.prog 69 = some none := by kernel_rfl
@[go_sem] theorem shape70 : shapeOf Tryz.prog 70 = some none := by kernel_rfl
@[go_sem] theorem shape71 : shapeOf Tryz.prog 71 = some (some 38) := by kernel_rfl
@[go_sem] theorem shape72 : shapeOf Tryz.prog 72 = some (some 38) := by kernel_rfl
@[go_sem] theorem shape73 : shapeOf Tryz.prog 73 = some none := by kernel_rfl
@[go_sem] theorem shape74 : shapeOf Tryz.prog 74 = some none := by kernel_rfl
@[go_sem] theorem shape75 : shapeOf Tryz.prog 75 = some none := by kernel_rfl
@[go_sem] theorem shape76 : shapeOf Tryz.prog 76 = some none := by kernel_rfl
@[go_sem] theorem shape77 : shapeOf Tryz.prog 77 = some none := by kernel_rfl
@[go_sem] theorem shape79 : shapeOf Tryz.prog 79 = some none := by kernel_rfl
@[go_sem] theorem shape80 : shapeOf Tryz.prog 80 = some none := by kernel_rfl
@[go_sem] theorem shape81 : shapeOf Tryz.prog 81 = some none := by kernel_rfl
@[go_sem] theorem shape82 : shapeOf Tryz.prog 82 = some none := by kernel_rfl
@[go_sem] theorem shape83 : shapeOf Tryz.prog 83 = some none := by kernel_rfl
@[go_sem] theorem shape84 : shapeOf Tryz.prog 84 = some none := by kernel_rfl
@[go_sem] theorem shape85 : shapeOf Tryz.prog 85 = some none := by kernel_rfl
@[go_sem] theorem shape86 : shapeOf Tryz.prog 86 = some none := by kernel_rfl
@[go_sem] theorem shape87 : shapeOf Tryz.prog 87 = some none := by kernel_rfl
@[go_sem] theorem shape88 : shapeOf Tryz.prog 88 = some none := by kernel_rfl
@[go_sem] theorem shape90 : shapeOf Tryz.prog 90 = some none := by kernel_rfl
@[go_sem] theorem shape92 : shapeOf Tryz.prog 92 = some none := by kernel_rfl
@[go_sem] theorem shape93 : shapeOf Tryz.prog 93 = some none := by kernel_rfl
@[go_sem] theorem shape94 : shapeOf Tryz.prog 94 = some none := by kernel_rfl
@[go_sem] theorem shape95 : shapeOf Tryz.prog 95 = some none := by kernel_rfl
@[go_sem] theorem shape96 : shapeOf Tryz.prog 96 = some (some 33) := by kernel_rfl
@[go_sem] theorem shape97 : shapeOf Tryz.prog 97 = some (some 33) := by kernel_rfl
@[go_sem] theorem shape98 : shapeOf Tryz.prog 98 = some none := by kernel_rfl
@[go_sem] theorem shape99 : shapeOf Tryz.prog 99 = some none := by kernel_rfl
@[go_sem] theorem shape101 : shapeOf Tryz.prog 101 = some none := by kernel_rfl
@[go_sem] theorem shape102 : shapeOf Tryz.prog 102 = some none := by kernel_rfl
@[go_sem] theorem shape103 : shapeOf Tryz.prog 103 = some none := by kernel_rfl
@[go_sem] theorem shape104 : shapeOf Tryz.prog 104 = some none := by kernel_rfl
@[go_sem] theorem shape105 : shapeOf Tryz.prog 105 = some none := by kernel_rfl
@[go_sem] theorem shape108 : shapeOf Tryz.prog 108 = some none := by kernel_rfl
@[go_sem] theorem shape109 : shapeOf Tryz.prog 109 = some none := by kernel_rfl
@[go_sem] theorem shape110 : shapeOf Tryz.prog 110 = some none := by kernel_rfl
@[go_sem] theorem shape111 : shapeOf Tryz.prog 111 = some none := by kernel_rfl
@[go_sem] theorem shape112 : shapeOf Tryz.prog 112 = some none := by kernel_rfl
@[go_sem] theorem shape113 : shapeOf Tryz.prog 113 = some none := by kernel_rfl
@[go_sem] theorem shape114 : shapeOf Tryz.prog 114 = some none := by kernel_rfl
@[go_sem] theorem shape115 : shapeOf Tryz.prog 115 = some none := by kernel_rfl
@[go_sem] theorem shape116 : shapeOf Tryz.prog 116 = some none := by kernel_rfl
@[go_sem] theorem shape117 : shapeOf Tryz.prog 117 = some none := by kernel_rfl
@[go_sem] theorem shape118 : shapeOf Tryz.prog 118 = some none := by kernel_rfl
@[go_sem] theorem shape119 : shapeOf Tryz.prog 119 = some none := by kernel_rfl
@[go_sem] theorem shape120 : shapeOf Tryz.prog 120 = some none := by kernel_rfl
@[go_sem] theorem shape121 : shapeOf Tryz.prog 121 = some none := by kernel_rfl
@[go_sem] theorem shape122 : shapeOf Tryz.prog 122 = some none := by kernel_rfl
@[go_sem] theorem shape123 : shapeOf Tryz.prog 123 = some none := by kernel_rfl
@[go_sem] theorem shape124 : shapeOf Tryz.prog 124 = some (some 37) := by kernel_rfl
@[go_sem] theorem shape125 : shapeOf Tryz.prog 125 = some (some 37) := by kernel_rfl
@[go_sem] theorem shape126 : shapeOf Tryz.prog 126 = some (some 34) := by kernel_rfl
@[go_sem] theorem shape127 : shapeOf Tryz.prog 127 = some (some 34) := by kernel_rfl
@[go_sem] theorem shape128 : shapeOf Tryz.prog 128 = some none := by kernel_rfl
@[go_sem] theorem shape129 : shapeOf Tryz.prog 129 = some none := by kernel_rfl
@[go_sem] theorem shape130 : shapeOf Tryz.prog 130 = some none := by kernel_rfl
@[go_sem] theorem shape131 : shapeOf Tryz.prog 131 = some (some 33) := by kernel_rfl
@[go_sem] theorem shape132 : shapeOf Tryz.prog 132 = some (some 33) := by kernel_rfl
@[go_sem] theorem shape133 : shapeOf Tryz.prog 133 = some none := by kernel_rfl
@[go_sem] theorem shape134 : shapeOf Tryz.prog 134 = some none := by kernel_rfl
@[go_sem] theorem shape135 : shapeOf Tryz.prog 135 = some none := by kernel_rfl
@[go_sem] theorem shape136 : shapeOf Tryz.prog 136 = some none := by kernel_rfl
@[go_sem] theorem shape138 : shapeOf Tryz.prog 138 = some none := by kernel_rfl
@[go_sem] theorem shape139 : shapeOf Tryz.prog 139 = some none := by kernel_rfl
@[go_sem] theorem shape140 : shapeOf Tryz.prog 140 = some none := by kernel_rfl
@[go_sem] theorem shape141 : shapeOf Tryz.prog 141 = some none := by kernel_rfl
@[go_sem] theorem shape143 : shapeOf Tryz.prog 143 = some none := by kernel_rfl
@[go_sem] theorem shape144 : shapeOf Tryz.prog 144 = some none := by kernel_rfl
@[go_sem] theorem shape146 : shapeOf Tryz.prog 146 = some none := by kernel_rfl
@[go_sem] theorem shape147 : shapeOf Tryz.prog 147 = some none := by kernel_rfl
@[go_sem] theorem shape148 : shapeOf Tryz.prog 148 = some none := by kernel_rfl
@[go_sem] theorem shape149 : shapeOf Tryz.prog 149 = some none := by kernel_rfl
@[go_sem] theorem shape150 : shapeOf Tryz.prog 150 = some none := by kernel_rfl
@[go_sem] theorem shape151 : shapeOf Tryz.prog 151 = some none := by kernel_rfl
@[go_sem] theorem shape152 : shapeOf Tryz.prog 152 = some none := by kernel_rfl
@[go_sem] theorem shape153 : shapeOf Tryz.prog 153 = some none := by kernel_rfl
@[go_sem] theorem shape154 : shapeOf Tryz.prog 154 = some none := by kernel_rfl
@[go_sem] theorem shape155 : shapeOf Tryz.prog 155 = some none := by kernel_rfl
@[go_sem] theorem shape156 : shapeOf Tryz.prog 156 = some none := by kernel_rfl
@[go_sem] theorem shape157 : shapeOf Tryz.prog 157 = some none := by kernel_rfl
@[go_sem] theorem shape158 : shapeOf Tryz.prog 158 = some none := by kernel_rfl
@[go_sem] theorem shape159 : shapeOf Tryz.prog 159 = some none := by kernel_rfl
@[go_sem] theorem shape160 : shapeOf Tryz.prog 160 = some none := by kernel_rfl
@[go_sem] theorem shape161 : shapeOf Tryz.prog 161 = some none := by kernel_rfl
@[go_sem] theorem shape162 : shapeOf Tryz.prog 162 = some none := by kernel_rfl
@[go_sem] theorem shape164 : shapeOf Tryz.prog 164 = some none := by kernel_rfl
@[go_sem] theorem shape165 : shapeOf Tryz.prog 165 = some none := by kernel_rfl
@[go_sem] theorem shape166 : shapeOf Tryz.prog 166 = some (some 66) := by kernel_rfl
@[go_sem] theorem shape167 : shapeOf Tryz.prog 167 = some (some 66) := by kernel_rfl
@[go_sem] theorem shape168 : shapeOf Tryz.prog 168 = some none := by kernel_rfl
@[go_sem] theorem shape169 : shapeOf Tryz.prog 169 = some none := by kernel_rfl
@[go_sem] theorem shape171 : shapeOf Tryz.prog 171 = some none := by kernel_rfl
@[go_sem] theorem shape172 : shapeOf Tryz.prog 172 = some none := by kernel_rfl
@[go_sem] theorem shape173 : shapeOf Tryz.prog 173 = some none := by kernel_rfl
@[go_sem] theorem shape174 : shapeOf Tryz.prog 174 = some none := by kernel_rfl
@[go_sem] theorem shape175 : shapeOf Tryz.prog 175 = some none := by kernel_rfl
@[go_sem] theorem shape176 : shapeOf Tryz.prog 176 = some none := by kernel_rfl
@[go_sem] theorem shape177 : shapeOf Tryz.prog 177 = some none := by kernel_rfl
@[go_sem] theorem shape178 : shapeOf Tryz.prog 178 = some none := by kernel_rfl
@[go_sem] theorem shape179 : shapeOf Tryz.prog 179 = some none := by kernel_rfl
@[go_sem] theorem shape180 : shapeOf Tryz.prog 180 = some (some 8) := by kernel_rfl
@[go_sem] theorem shape181 : shapeOf Tryz.prog 181 = some none := by kernel_rfl
@[go_sem] theorem shape182 : shapeOf Tryz.prog 182 = some none := by kernel_rfl
@[go_sem] theorem shape183 : shapeOf Tryz.prog 183 = some none := by kernel_rfl
@[go_sem] theorem shape184 : shapeOf Tryz.prog 184 = some (some 3) := by kernel_rfl
@[go_sem] theorem shape185 : shapeOf Tryz.prog 185 = some (some 3) := by kernel_rfl
@[go_sem] theorem shape186 : shapeOf Tryz.prog 186 = some (some 3) := by kernel_rfl
@[go_sem] theorem shape187 : shapeOf Tryz.prog 187 = some (some 3) := by kernel_rfl
@[go_sem] theorem shape188 : shapeOf Tryz.prog 188 = some none := by kernel_rfl
@[go_sem] theorem shape189 : shapeOf Tryz.prog 189 = some none := by kernel_rfl
@[go_sem] theorem shape190 : shapeOf Tryz.prog 190 = some none := by kernel_rfl
@[go_sem] theorem shape191 : shapeOf Tryz.prog 191 = some (some 11) := by kernel_rfl
@[go_sem] theorem shape192 : shapeOf Tryz.prog 192 = some (some 11) := by kernel_rfl
@[go_sem] theorem shape193 : shapeOf Tryz.prog 193 = some none := by kernel_rfl
@[go_sem] theorem shape194 : shapeOf Tryz.prog 194 = some none := by kernel_rfl
@[go_sem] theorem shape195 : shapeOf Tryz.prog 195 = some none := by kernel_rfl
@[go_sem] theorem shape196 : shapeOf Tryz.prog 196 = some none := by kernel_rfl
@[go_sem] theorem shape197 : shapeOf Tryz.prog 197 = some none := by kernel_rfl
@[go_sem] theorem shape198 : shapeOf Tryz.prog 198 = some none := by kernel_rfl
@[go_sem] theorem shape199 : shapeOf Tryz.prog 199 = some none := by kernel_rfl
@[go_sem] theorem shape200 : shapeOf Tryz.prog 200 = some (some 64) := by kernel_rfl
@[go_sem] theorem shape201 : shapeOf Tryz.prog 201 = some none := by kernel_rfl
@[go_sem] theorem shape202 : shapeOf Tryz.prog 202 = some none := by kernel_rfl
@[go_sem] theorem shape203 : shapeOf Tryz.prog 203 = some none := by kernel_rfl
@[go_sem] theorem shape204 : shapeOf Tryz.prog 204 = some none := by kernel_rfl
@[go_sem] theorem shape205 : shapeOf Tryz.prog 205 = some none := by kernel_rfl
@[go_sem] theorem shape206 : shapeOf Tryz.prog 206 = some none := by kernel_rfl
@[go_sem] theorem shape207 : shapeOf Tryz.prog 207 = some none := by kernel_rfl
@[go_sem] theorem shape208 : shapeOf Tryz.prog 208 = some none := by kernel_rfl
@[go_sem] theorem shape209 : shapeOf Tryz.prog 209 = some none := by kernel_rfl
@[go_sem] theorem shape210 : shapeOf Tryz.prog 210 = some none := by kernel_rfl
@[go_sem] theorem shape211 : shapeOf Tryz.prog 211 = some none := by kernel_rfl
@[go_sem] theorem shape212 : shapeOf Tryz.prog 212 = some none := by kernel_rfl
@[go_sem] theorem shape213 : shapeOf Tryz.prog 213 = some none := by kernel_rfl
@[go_sem] theorem shape214 : shapeOf Tryz.prog 214 = some none := by kernel_rfl
@[go_sem] theorem shape216 : shapeOf Tryz.prog 216 = some none := by kernel_rfl
@[go_sem] theorem shape217 : shapeOf Tryz.prog 217 = some none := by kernel_rfl
@[go_sem] theorem shape218 : shapeOf Tryz.prog 218 = some (some 4) := by kernel_rfl
@[go_sem] theorem shape219 : shapeOf Tryz.prog 219 = some (some 4) := by kernel_rfl
@[go_sem] theorem shape220 : shapeOf Tryz.prog 220 = some none := by kernel_rfl
@[go_sem] theorem shape221 : shapeOf Tryz.prog 221 = some none := by kernel_rfl
@[go_sem] theorem shape222 : shapeOf Tryz.prog 222 = some (some 4) := by kernel_rfl
@[go_sem] theorem shape223 : shapeOf Tryz.prog 223 = some (some 4) := by kernel_rfl
@[go_sem] theorem shape224 : shapeOf Tryz.prog 224 = some (some 0) := by kernel_rfl
@[go_sem] theorem shape225 : shapeOf Tryz.prog 225 = some (some 0) := by kernel_rfl
@[go_sem] theorem shape226 : shapeOf Tryz.prog 226 = some (some 0) := by kernel_rfl
@[go_sem] theorem shape227 : shapeOf Tryz.prog 227 = some none := by kernel_rfl
@[go_sem] theorem shape228 : shapeOf Tryz.prog 228 = some none := by kernel_rfl
@[go_sem] theorem shape229 : shapeOf Tryz.prog 229 = some none := by kernel_rfl
@[go_sem] theorem shape230 : shapeOf Tryz.prog 230 = some none := by kernel_rfl
@[go_sem] theorem shape231 : shapeOf Tryz.prog 231 = some none := by kernel_rfl
@[go_sem] theorem shape232 : shapeOf Tryz.prog 232 = some none := by kernel_rfl
@[go_sem] theorem shape233 : shapeOf Tryz.prog 233 = some (some 11) := by kernel_rfl
@[go_sem] theorem shape234 : shapeOf Tryz.prog 234 = some (some 11) := by kernel_rfl
@[go_sem] theorem shape235 : shapeOf Tryz.prog 235 = some none := by kernel_rfl
@[go_sem] theorem shape236 : shapeOf Tryz.prog 236 = some none := by kernel_rfl
@[go_sem] theorem shape237 : shapeOf Tryz.prog 237 = some none := by kernel_rfl
@[go_sem] theorem shape238 : shapeOf Tryz.prog 238 = some none := by kernel_rfl
theorem el3 : El Tryz.prog 3 1 8 := el_of (z := (.int .i64 0)) (by kernel_rfl) (by simp [Value.cells]) (by decide)
theorem el5 : El Tryz.prog 5 1 1 := el_of (z := (.int .u8 0)) (by kernel_rfl) (by simp [Value.cells]) (by decide)
theorem el22 : El Tryz.prog 22 1 24 := el_of (z := (.slice none 0 0)) (by kernel_rfl) (by simp [Value.cells]) (by decide)
theorem el27 : El Tryz.prog 27 32 32 := el_of (z := (.agg #[(.int .u8 0), (.int .u8 0), (.int .u8 0), (.int .u8 0), (.int .u8 0), (.int .u8 0), (.int .u8 0), (.int .u8 0), (.int .u8 0), (.int .u8 0), (.int .u8 0), (.int .u8 0), (.int .u8 0), (.int .u8 0), (.int .u8 0), (.int .u8 0), (.int .u8 0), (.int .u8 0), (.int .u8 0), (.int .u8 0), (.int .u8 0), (.int .u8 0), (.int .u8 0), (.int .u8 0), (.int .u8 0), (.int .u8 0), (.int .u8 0), (.int .u8 0), (.int .u8 0), (.int .u8 0), (.int .u8 0), (.int .u8 0)])) (by kernel_rfl) (by simp [Value.cells]) (by decide)
theorem el29 : El Tryz.prog 29 34 64 := el_of (z := (.agg #[(.int .u8 0), (.int .u8 0), (.int .u8 0), (.int .u8 0), (.int .u8 0), (.int .u8 0), (.int .u8 0), (.int .u8 0), (.int .u8 0), (.int .u8 0), (.int .u8 0), (.int .u8 0), (.int .u8 0), (.int .u8 0), (.int .u8 0), (.int .u8 0), (.int .u8 0), (.int .u8 0), (.int .u8 0), (.int .u8 0), (.int .u8 0), (.int .u8 0), (.int .u8 0), (.int .u8 0), (.int .u8 0), (.int .u8 0), (.int .u8 0), (.int .u8 0), (.int .u8 0), (.int .u8 0), (.int .u8 0), (.int .u8 0), (.int .i64 0), (.slice none 0 0)])) (by kernel_rfl) (by simp [Value.cells]) (by decide)
theorem el97 : El Tryz.prog 97 33 56 := el_of (z := (.agg #[(.int .u8 0), (.int .u8 0), (.int .u8 0), (.int .u8 0), (.int .u8 0), (.int .u8 0), (.int .u8 0), (.int .u8 0), (.int .u8 0), (.int .u8 0), (.int .u8 0), (.int .u8 0), (.int .u8 0), (.int .u8 0), (.int .u8 0), (.int .u8 0), (.int .u8 0), (.int .u8 0), (.int .u8 0), (.int .u8 0), (.int .u8 0), (.int .u8 0), (.int .u8 0), (.int .u8 0), (.int .u8 0), (.int .u8 0), (.int .u8 0), (.int .u8 0), (.int .u8 0), (.int .u8 0), (.int .u8 0), (.int .u8 0), (.slice none 0 0)])) (by kernel_rfl) (by simp [Value.cells]) (by decide)
theorem el127 : El Tryz.prog 127 34 48 := el_of (z := (.agg #[(.int .u8 0), (.int .u8 0), (.int .u8 0), (.int .u8 0), (.int .u8 0), (.int .u8 0), (.int .u8 0), (.int .u8 0), (.int .u8 0), (.int .u8 0), (.int .u8 0), (.int .u8 0), (.int .u8 0), (.int .u8 0), (.int .u8 0), (.int .u8 0), (.int .u8 0), (.int .u8 0), (.int .u8 0), (.int .u8 0), (.int .u8 0), (.int .u8 0), (.int .u8 0), (.int .u8 0), (.int .u8 0), (.int .u8 0), (.int .u8 0), (.int .u8 0), (.int .u8 0), (.int .u8 0), (.int .u8 0), (.int .u8 0), (.int .i64 0), (.bool false)])) (by kernel_rfl) (by simp [Value.cells]) (by decide)
theorem el132 : El Tryz.prog 132 33 56 := el_of (z := (.agg #[(.int .u8 0), (.int .u8 0), (.int .u8 0), (.int .u8 0), (.int .u8 0), (.int .u8 0), (.int .u8 0), (.int .u8 0), (.int .u8 0), (.int .u8 0), (.int .u8 0), (.int .u8 0), (.int .u8 0), (.int .u8 0), (.int .u8 0), (.int .u8 0), (.int .u8 0), (.int .u8 0), (.int .u8 0), (.int .u8 0), (.int .u8 0), (.int .u8 0), (.int .u8 0), (.int .u8 0), (.int .u8 0), (.int .u8 0), (.int .u8 0), (.int .u8 0), (.int .u8 0), (.int .u8 0), (.int .u8 0), (.int .u8 0), (.slice none 0 0)])) (by kernel_rfl) (by simp [Value.cells]) (by decide)
theorem el167 : El Tryz.prog 167 66 96 := el_of (z := (.agg #[(.int .u8 0), (.int .u8 0), (.int .u8 0), (.int .u8 0), (.int .u8 0), (.int .u8 0), (.int .u8 0), (.int .u8 0), (.int .u8 0), (.int .u8 0), (.int .u8 0), (.int .u8 0), (.int .u8 0), (.int .u8 0), (.int .u8 0), (.int .u8 0), (.int .u8 0), (.int .u8 0), (.int .u8 0), (.int .u8 0), (.int .u8 0), (.int .u8 0), (.int .u8 0), (.int .u8 0), (.int .u8 0), (.int .u8 0), (.int .u8 0), (.int .u8 0), (.int .u8 0), (.int .u8 0), (.int .u8 0), (.int .u8 0), (.int .u8 0), (.int .u8 0), (.int .u8 0), (.int .u8 0), (.int .u8 0), (.int .u8 0), (.int .u8 0), (.int .u8 0), (.int .u8 0), (.int .u8 0), (.int .u8 0), (.int .u8 0), (.int .u8 0), (.int .u8 0), (.int .u8 0), (.int .u8 0), (.int .u8 0), (.int .u8 0), (.int .u8 0), (.int .u8 0), (.int .u8 0), (.int .u8 0), (.int .u8 0), (.int .u8 0), (.int .u8 0), (.int .u8 0), (.int .u8 0), (.int .u8 0), (.int .u8 0), (.int .u8 0), (.int .u8 0), (.int .u8 0), (.int .i64 0), (.slice none 0 0)])) (by kernel_rfl) (by simp [Value.cells]) (by decide)
theorem follows : Tryz.prog.follows .mixedOrders = true := by kernel_rfl
def shlU (x : UInt32) (n : Nat) : UInt32 := UInt32.ofNat (x.toNat * 2 ^ n)
def shrU (x : UInt32) (n : Nat) : UInt32 := UInt32.ofNat (x.toNat / 2 ^ n)
def rotr (n : Nat) (x : UInt32) : UInt32 := shrU x n ||| shlU x (32 - n)
structure St8 where
  a : UInt32
  b : UInt32
  c : UInt32
  d : UInt32
  e : UInt32
  f : UInt32
  g : UInt32
  h : UInt32
def St8.round (s : St8) (k w : UInt32) : St8 :=
  let t1 := s.h + (rotr 6 s.e ^^^ rotr 11 s.e ^^^ rotr 25 s.e) + ((s.e &&& s.f) ^^^ (~~~s.e &&& s.g)) + k + w
  let t2 := (rotr 2 s.a ^^^ rotr 13 s.a ^^^ rotr 22 s.a) + ((s.a &&& s.b) ^^^ (s.a &&& s.c) ^^^ (s.b &&& s.c))
  ⟨t1 + t2, s.a, s.b, s.c, s.d + t1, s.e, s.f, s.g⟩
def cubes : List UInt32 := [1116352408, 1899447441, 3049323471, 3921009573, 961987163, 1508970993, 2453635748, 2870763221, 3624381080, 310598401, 607225278, 1426881987, 1925078388, 2162078206, 2614888103, 3248222580, 3835390401, 4022224774, 264347078, 604807628, 770255983, 1249150122, 1555081692, 1996064986, 2554220882, 2821834349, 2952996808, 3210313671, 3336571891, 3584528711, 113926993, 338241895, 666307205, 773529912, 1294757372, 1396182291, 1695183700, 1986661051, 2177026350, 2456956037, 2730485921, 2820302411, 3259730800, 3345764771, 3516065817, 3600352804, 4094571909, 275423344, 430227734, 506948616, 659060556, 883997877, 958139571, 1322822218, 1537002063, 1747873779, 1955562222, 2024104815, 2227730452, 2361852424, 2428436474, 2756734187, 3204031479, 3329325298]
def St8.rounds (s : St8) (ws : List UInt32) : Nat → St8
  | 0 => s
  | t + 1 => (s.rounds ws t).round (cubes.getD t 0) (ws.getD t 0)
def St8.sum (s v : St8) : St8 := ⟨s.a + v.a, s.b + v.b, s.c + v.c, s.d + v.d, s.e + v.e, s.f + v.f, s.g + v.g, s.h + v.h⟩
def byteAt (b : List UInt8) (i : Nat) : Nat := (b.getD i 0).toNat
def wordOf (b : List UInt8) (t : Nat) : UInt32 := UInt32.ofNat (byteAt b (4 * t) * 16777216 + byteAt b (4 * t + 1) * 65536 + byteAt b (4 * t + 2) * 256 + byteAt b (4 * t + 3))
def sig0 (x : UInt32) : UInt32 := rotr 7 x ^^^ rotr 18 x ^^^ shrU x 3
def sig1 (y : UInt32) : UInt32 := rotr 17 y ^^^ rotr 19 y ^^^ shrU y 10
def nextWord (b : List UInt8) (ws : List UInt32) (t : Nat) : UInt32 :=
  if t < 16 then wordOf b t else sig1 (ws.getD (t - 2) 0) + ws.getD (t - 7) 0 + sig0 (ws.getD (t - 15) 0) + ws.getD (t - 16) 0
def schedTo (b : List UInt8) : Nat → List UInt32
  | 0 => []
  | t + 1 => schedTo b t ++ [nextWord b (schedTo b t) t]
def sched (b : List UInt8) : List UInt32 := schedTo b 64
theorem schedTo_length (b : List UInt8) (t : Nat) : (schedTo b t).length = t := by
  induction t with
  | zero => rfl
  | succ t ih => simp [schedTo, ih]
theorem sched_length (b : List UInt8) : (sched b).length = 64 := schedTo_length b 64
def mix (s : St8) (b : List UInt8) : St8 := s.sum (s.rounds (sched b) 64)
def firstWords : St8 := ⟨0x6a09e667, 0xbb67ae85, 0x3c6ef372, 0xa54ff53a, 0x510e527f, 0x9b05688c, 0x1f83d9ab, 0x5be0cd19⟩
def mixes (s : St8) (b : List UInt8) : Nat → St8
  | 0 => s
  | n + 1 => mix (mixes s b n) ((b.drop (64 * n)).take 64)
def be64 (n : Nat) : List UInt8 := (List.range 8).map fun i => UInt8.ofNat (n / 2 ^ (56 - 8 * i))
def noughts (n : Nat) : Nat := (119 - n % 64) % 64
def pad (b : List UInt8) : List UInt8 := b ++ [128] ++ List.replicate (noughts b.length) 0 ++ be64 (b.length * 8 % 18446744073709551616)
def wordBytes (x : UInt32) : List UInt8 := [UInt8.ofNat (x.toNat / 16777216), UInt8.ofNat (x.toNat / 65536), UInt8.ofNat (x.toNat / 256), UInt8.ofNat x.toNat]
def St8.bytes (s : St8) : List UInt8 := wordBytes s.a ++ wordBytes s.b ++ wordBytes s.c ++ wordBytes s.d ++ wordBytes s.e ++ wordBytes s.f ++ wordBytes s.g ++ wordBytes s.h
def sha (b : List UInt8) : List UInt8 := (mixes firstWords (pad b) ((pad b).length / 64)).bytes
end Go.Proofs.YtdjcjjodbniebaaGreatDoor
