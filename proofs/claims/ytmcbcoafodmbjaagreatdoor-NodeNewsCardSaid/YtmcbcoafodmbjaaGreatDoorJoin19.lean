/-
  Texts joined: Types.
-/
import Derived.Test.YtmcbcoafodmbjaaGreatDoorJoin18
import Derived.Test.YtmcbcoafodmbjaaGreatDoorProg
namespace Go.Proofs.YtmcbcoafodmbjaaGreatDoor
@[go_sem] theorem shape1 : shapeOf Tryz.prog 1 = some none := by kernel_rfl
@[go_sem] theorem shape2 : shapeOf Tryz.prog 2 = some none := by kernel_rfl
@[go_sem] theorem shape3 : shapeOf Tryz.prog 3 = some none := by kernel_rfl
@[go_sem] theorem shape4 : shapeOf Tryz.prog 4 = some none := by kernel_rfl
@[go_sem] theorem shape5 : shapeOf Tryz.prog 5 = some none := by kernel_rfl
@[go_sem] theorem shape6 : shapeOf Tryz.prog 6 = some none := by kernel_rfl
@[go_sem] theorem shape7 : shapeOf Tryz.prog 7 = some (some 4) := by kernel_rfl
@[go_sem] theorem shape8 : shapeOf Tryz.prog 8 = some (some 4) := by kernel_rfl
@[go_sem] theorem shape9 : shapeOf Tryz.prog 9 = some none := by kernel_rfl
@[go_sem] theorem shape10 : shapeOf Tryz.prog 10 = some none := by kernel_rfl
@[go_sem] theorem shape11 : shapeOf Tryz.prog 11 = some none := by kernel_rfl
@[go_sem] theorem shape12 : shapeOf Tryz.prog 12 = some none := by kernel_rfl
@[go_sem] theorem shape13 : shapeOf Tryz.prog 13 = some (some 2) := by kernel_rfl
@[go_sem] theorem shape14 : shapeOf Tryz.prog 14 = some (some 2) := by kernel_rfl
@[go_sem] theorem shape15 : shapeOf Tryz.prog 15 = some none := by kernel_rfl
@[go_sem] theorem shape16 : shapeOf Tryz.prog 16 = some none := by kernel_rfl
@[go_sem] theorem shape17 : shapeOf Tryz.prog 17 = some none := by kernel_rfl
@[go_sem] theorem shape18 : shapeOf Tryz.prog 18 = some (some 1) := by kernel_rfl
@[go_sem] theorem shape19 : shapeOf Tryz.prog 19 = some (some 1) := by kernel_rfl
@[go_sem] theorem shape20 : shapeOf Tryz.prog 20 = some none := by kernel_rfl
@[go_sem] theorem shape21 : shapeOf Tryz.prog 21 = some none := by kernel_rfl
@[go_sem] theorem shape22 : shapeOf Tryz.prog 22 = some (some 4) := by kernel_rfl
@[go_sem] theorem shape23 : shapeOf Tryz.prog 23 = some (some 4) := by kernel_rfl
@[go_sem] theorem shape24 : shapeOf Tryz.prog 24 = some (some 5) := by kernel_rfl
@[go_sem] theorem shape25 : shapeOf Tryz.prog 25 = some (some 5) := by kernel_rfl
@[go_sem] theorem shape26 : shapeOf Tryz.prog 26 = some (some 5) := by kernel_rfl
@[go_sem] theorem shape27 : shapeOf Tryz.prog 27 = some (some 5) := by kernel_rfl
@[go_sem] theorem shape28 : shapeOf Tryz.prog 28 = some (some 5) := by kernel_rfl
@[go_sem] theorem shape29 : shapeOf Tryz.prog 29 = some (some 5) := by kernel_rfl
@[go_sem] theorem shape30 : shapeOf Tryz.prog 30 = some (some 11) := by kernel_rfl
@[go_sem] theorem shape31 : shapeOf Tryz.prog 31 = some (some 11) := by kernel_rfl
@[go_sem] theorem shape32 : shapeOf Tryz.prog 32 = some (some 28) := by kernel_rfl
@[go_sem] theorem shape33 : shapeOf Tryz.prog 33 = some (some 28) := by kernel_rfl
@[go_sem] theorem shape34 : shapeOf Tryz.prog 34 = some none := by kernel_rfl
@[go_sem] theorem shape35 : shapeOf Tryz.prog 35 = some (some 32) := by kernel_rfl
@[go_sem] theorem shape36 : shapeOf Tryz.prog 36 = some (some 32) := by kernel_rfl
@[go_sem] theorem shape37 : shapeOf Tryz.prog 37 = some none := by kernel_rfl
@[go_sem] theorem shape38 : shapeOf Tryz.prog 38 = some (some 34) := by kernel_rfl
@[go_sem] theorem shape39 : shapeOf Tryz.prog 39 = some (some 34) := by kernel_rfl
@[go_sem] theorem shape40 : shapeOf Tryz.prog 40 = some none := by kernel_rfl
@[go_sem] theorem shape41 : shapeOf Tryz.prog 41 = some none := by kernel_rfl
@[go_sem] theorem shape42 : shapeOf Tryz.prog 42 = some none := by kernel_rfl
@[go_sem] theorem shape43 : shapeOf Tryz.prog 43 = some none := by kernel_rfl
@[go_sem] theorem shape44 : shapeOf Tryz.prog 44 = some none := by kernel_rfl
@[go_sem] theorem shape45 : shapeOf Tryz.prog 45 = some none := by kernel_rfl
@[go_sem] theorem shape46 : shapeOf Tryz.prog 46 = some none := by kernel_rfl
@[go_sem] theorem shape47 : shapeOf Tryz.prog 47 = some none := by kernel_rfl
@[go_sem] theorem shape48 : shapeOf Tryz.prog 48 = some none := by kernel_rfl
@[go_sem] theorem shape50 : shapeOf Tryz.prog 50 = some none := by kernel_rfl
@[go_sem] theorem shape51 : shapeOf Tryz.prog 51 = some none := by kernel_rfl
@[go_sem] theorem shape53 : shapeOf Tryz.prog 53 = some none := by kernel_rfl
@[go_sem] theorem shape54 : shapeOf Tryz.prog 54 = some none := by kernel_rfl
@[go_sem] theorem shape55 : shapeOf Tryz.prog 55 = some none := by kernel_rfl
@[go_sem] theorem shape56 : shapeOf Tryz.prog 56 = some none := by kernel_rfl
@[go_sem] theorem shape57 : shapeOf Tryz.prog 57 = some none := by kernel_rfl
@[go_sem] theorem shape58 : shapeOf Tryz.prog 58 = some (some 2) := by kernel_rfl
@[go_sem] theorem shape59 : shapeOf Tryz.prog 59 = some (some 2) := by kernel_rfl
@[go_sem] theorem shape60 : shapeOf Tryz.prog 60 = some none := by kernel_rfl
@[go_sem] theorem shape61 : shapeOf Tryz.prog 61 = some none := by kernel_rfl
@[go_sem] theorem shape63 : shapeOf Tryz.prog 63 = some none := by kernel_rfl
@[go_sem] theorem shape64 : shapeOf Tryz.prog 64 = some none := by kernel_rfl
@[go_sem] theorem shape65 : shapeOf Tryz.prog 65 = some (some 5) := by kernel_rfl
@[go_sem] theorem shape66 : shapeOf Tryz.prog 66 = some (some 5) := by kernel_rfl
@[go_sem] theorem shape67 : shapeOf Tryz.prog 67 = some (some 2) := by kernel_rfl
@[go_sem] theorem shape68 : shapeOf Tryz.prog 68 = some (some 2) := by kernel_rfl
@[go_sem] theorem shape69 : shapeOf Tryz.prog 69 = some none := by kernel_rfl
@[go_sem] theorem shape71 : shapeOf Tryz.prog 71 = some none := by kernel_rfl
@[go_sem] theorem shape72 : shapeOf Tryz.prog 72 = some none := by kernel_rfl
@[go_sem] theorem shape73 : shapeOf Tryz.prog 73 = some none := by kernel_rfl
@[go_sem] theorem shape74 : shapeOf Tryz.prog 74 = some (some 8) := by kernel_rfl
@[go_sem] theorem shape75 : shapeOf Tryz.prog 75 = some (some 8) := by kernel_rfl
@[go_sem] theorem shape76 : shapeOf Tryz.prog 76 = some (some 4) := by kernel_rfl
@[go_sem] theorem shape77 : shapeOf Tryz.prog 77 = some (some 4) := by kernel_rfl
@[go_sem] theorem shape78 : shapeOf Tryz.prog 78 = some (some 3) := by kernel_rfl
@[go_sem] theorem shape79 : shapeOf Tryz.prog 79 = some (some 3) := by kernel_rfl
@[go_sem] theorem shape80 : shapeOf Tryz.prog 80 = some none := by kernel_rfl
@[go_sem] theorem shape81 : shapeOf Tryz.prog 81 = some none := by kernel_rfl
@[go_sem] theorem shape82 : shapeOf Tryz.prog 82 = some none := by kernel_rfl
@[go_sem] theorem shape84 : shapeOf Tryz.prog 84 = some none := by kernel_rfl
@[go_sem] theorem shape85 : shapeOf Tryz.prog 85 = some none := by kernel_rfl
@[go_sem] theorem shape87 : shapeOf Tryz.prog 87 = some none := by kernel_rfl
@[go_sem] theorem shape88 : shapeOf Tryz.prog 88 = some none := by kernel_rfl
@[go_sem] theorem shape89 : shapeOf Tryz.prog 89 = some (some 2) := by kernel_rfl
@[go_sem] theorem shape90 : shapeOf Tryz.prog 90 = some (some 2) := by kernel_rfl
@[go_sem] theorem shape91 : shapeOf Tryz.prog 91 = some none := by kernel_rfl
@[go_sem] theorem shape92 : shapeOf Tryz.prog 92 = some none := by kernel_rfl
@[go_sem] theorem shape93 : shapeOf Tryz.prog 93 = some none := by kernel_rfl
@[go_sem] theorem shape94 : shapeOf Tryz.prog 94 = some none := by kernel_rfl
@[go_sem] theorem shape95 : shapeOf Tryz.prog 95 = some none := by kernel_rfl
@[go_sem] theorem shape96 : shapeOf Tryz.prog 96 = some none := by kernel_rfl
@[go_sem] theorem shape97 : shapeOf Tryz.prog 97 = some none := by kernel_rfl
@[go_sem] theorem shape98 : shapeOf Tryz.prog 98 = some none := by kernel_rfl
@[go_sem] theorem shape99 : shapeOf Tryz.prog 99 = some none := by kernel_rfl
@[go_sem] theorem shape100 : shapeOf Tryz.prog 100 = some (some 4) := by kernel_rfl
@[go_sem] theorem shape101 : shapeOf Tryz.prog 101 = some (some 4) := by kernel_rfl
@[go_sem] theorem shape102 : shapeOf Tryz.prog 102 = some none := by kernel_rfl
@[go_sem] theorem shape103 : shapeOf Tryz.prog 103 = some none := by kernel_rfl
@[go_sem] theorem shape104 : shapeOf Tryz.prog 104 = some none := by kernel_rfl
@[go_sem] theorem shape105 : shapeOf Tryz.prog 105 = some none := by kernel_rfl
@[go_sem] theorem shape106 : shapeOf Tryz.prog 106 = some none := by kernel_rfl
@[go_sem] theorem shape107 : shapeOf Tryz.prog 107 = some (some 4) := by kernel_rfl
@[go_sem] theorem shape108 : shapeOf Tryz.prog 108 = some (some 4) := by kernel_rfl
@[go_sem] theorem shape109 : shapeOf Tryz.prog 109 = some (some 50) := by kernel_rfl
@[go_sem] theorem shape110 : shapeOf Tryz.prog 110 = some (some 50) := by kernel_rfl
@[go_sem] theorem shape112 : shapeOf Tryz.prog 112 = some none := by kernel_rfl
@[go_sem] theorem shape113 : shapeOf Tryz.prog 113 = some none := by kernel_rfl
@[go_sem] theorem shape115 : shapeOf Tryz.prog 115 = some none := by kernel_rfl
@[go_sem] theorem shape116 : shapeOf Tryz.prog 116 = some none := by kernel_rfl
@[go_sem] theorem shape118 : shapeOf Tryz.prog 118 = some none := by kernel_rfl
@[go_sem] theorem shape119 : shapeOf Tryz.prog 119 = some none := by kernel_rfl
@[go_sem] theorem shape120 : shapeOf Tryz.prog 120 = some none := by kernel_rfl
@[go_sem] theorem shape121 : shapeOf Tryz.prog 121 = some none := by kernel_rfl
@[go_sem] theorem shape122 : shapeOf Tryz.prog 122 = some none := by kernel_rfl
@[go_sem] theorem shape123 : shapeOf Tryz.prog 123 = some none := by kernel_rfl
@[go_sem] theorem shape124 : shapeOf Tryz.prog 124 = some none := by kernel_rfl
@[go_sem] theorem shape125 : shapeOf Tryz.prog 125 = some none := by kernel_rfl
@[go_sem] theorem shape126 : shapeOf Tryz.prog 126 = some (some 50) := by kernel_rfl
@[go_sem] theorem shape127 : shapeOf Tryz.prog 127 = some (some 50) := by kernel_rfl
@[go_sem] theorem shape129 : shapeOf Tryz.prog 129 = some none := by kernel_rfl
@[go_sem] theorem shape130 : shapeOf Tryz.prog 130 = some none := by kernel_rfl
@[go_sem] theorem shape131 : shapeOf Tryz.prog 131 = some none := by kernel_rfl
@[go_sem] theorem shape132 : shapeOf Tryz.prog 132 = some none := by kernel_rfl
@[go_sem] theorem shape133 : shapeOf Tryz.prog 133 = some none := by kernel_rfl
@[go_sem] theorem shape134 : shapeOf Tryz.prog 134 = some none := by kernel_rfl
@[go_sem] theorem shape135 : shapeOf Tryz.prog 135 = some none := by kernel_rfl
@[go_sem] theorem shape136 : shapeOf Tryz.prog 136 = some none := by kernel_rfl
@[go_sem] theorem shape137 : shapeOf Tryz.prog 137 = some none := by kernel_rfl
@[go_sem] theorem shape138 : shapeOf Tryz.prog 138 = some (some 2) := by kernel_rfl
@[go_sem] theorem shape139 : shapeOf Tryz.prog 139 = some (some 2) := by kernel_rfl
@[go_sem] theorem shape140 : shapeOf Tryz.prog 140 = some none := by kernel_rfl
@[go_sem] theorem shape141 : shapeOf Tryz.prog 141 = some none := by kernel_rfl
@[go_sem] theorem shape142 : shapeOf Tryz.prog 142 = some (some 19) := by kernel_rfl
@[go_sem] theorem shape143 : shapeOf Tryz.prog 143 = some (some 19) := by kernel_rfl
@[go_sem] theorem shape144 : shapeOf Tryz.prog 144 = some none := by kernel_rfl
@[go_sem] theorem shape145 : shapeOf Tryz.prog 145 = some (some 3) := by kernel_rfl
@[go_sem] theorem shape146 : shapeOf Tryz.prog 146 = some (some 3) := by kernel_rfl
@[go_sem] theorem shape147 : shapeOf Tryz.prog 147 = some none := by kernel_rfl
@[go_sem] theorem shape148 : shapeOf Tryz.prog 148 = some none := by kernel_rfl
@[go_sem] theorem shape149 : shapeOf Tryz.prog 149 = some (some 6) := by kernel_rfl
@[go_sem] theorem shape150 : shapeOf Tryz.prog 150 = some (some 6) := by kernel_rfl
@[go_sem] theorem shape151 : shapeOf Tryz.prog 151 = some none := by kernel_rfl
@[go_sem] theorem shape152 : shapeOf Tryz.prog 152 = some none := by kernel_rfl
@[go_sem] theorem shape154 : shapeOf Tryz.prog 154 = some none := by kernel_rfl
@[go_sem] theorem shape155 : shapeOf Tryz.prog 155 = some none := by kernel_rfl
@[go_sem] theorem shape156 : shapeOf Tryz.prog 156 = some (some 4) := by kernel_rfl
@[go_sem] theorem shape157 : shapeOf Tryz.prog 157 = some (some 4) := by kernel_rfl
@[go_sem] theorem shape158 : shapeOf Tryz.prog 158 = some none := by kernel_rfl
@[go_sem] theorem shape159 : shapeOf Tryz.prog 159 = some none := by kernel_rfl
@[go_sem] theorem shape160 : shapeOf Tryz.prog 160 = some (some 6) := by kernel_rfl
@[go_sem] theorem shape161 : shapeOf Tryz.prog 161 = some (some 6) := by kernel_rfl
@[go_sem] theorem shape162 : shapeOf Tryz.prog 162 = some none := by kernel_rfl
@[go_sem] theorem shape163 : shapeOf Tryz.prog 163 = some none := by kernel_rfl
@[go_sem] theorem shape164 : shapeOf Tryz.prog 164 = some none := by kernel_rfl
@[go_sem] theorem shape165 : shapeOf Tryz.prog 165 = some (some 4) := by kernel_rfl
@[go_sem] theorem shape166 : shapeOf Tryz.prog 166 = some (some 4) := by kernel_rfl
@[go_sem] theorem shape167 : shapeOf Tryz.prog 167 = some (some 4) := by kernel_rfl
@[go_sem] theorem shape168 : shapeOf Tryz.prog 168 = some (some 4) := by kernel_rfl
@[go_sem] theorem shape170 : shapeOf Tryz.prog 170 = some none := by kernel_rfl
@[go_sem] theorem shape171 : shapeOf Tryz.prog 171 = some none := by kernel_rfl
@[go_sem] theorem shape172 : shapeOf Tryz.prog 172 = some none := by kernel_rfl
@[go_sem] theorem shape173 : shapeOf Tryz.prog 173 = some none := by kernel_rfl
@[go_sem] theorem shape174 : shapeOf Tryz.prog 174 = some none := by kernel_rfl
@[go_sem] theorem shape175 : shapeOf Tryz.prog 175 = some none := by kernel_rfl
@[go_sem] theorem shape177 : shapeOf Tryz.prog 177 = some none := by kernel_rfl
@[go_sem] theorem shape178 : shapeOf Tryz.prog 178 = some none := by kernel_rfl
@[go_sem] theorem shape180 : shapeOf Tryz.prog 180 = some none := by kernel_rfl
@[go_sem] theorem shape182 : shapeOf Tryz.prog 182 = some none := by kernel_rfl
@[go_sem] theorem shape183 : shapeOf Tryz.prog 183 = some none := by kernel_rfl
@[go_sem] theorem shape184 : shapeOf Tryz.prog 184 = some none := by kernel_rfl
@[go_sem] theorem shape185 : shapeOf Tryz.prog 185 = some none := by kernel_rfl
@[go_sem] theorem shape186 : shapeOf Tryz.prog 186 = some (some 2) := by kernel_rfl
@[go_sem] theorem shape187 : shapeOf Tryz.prog 187 = some (some 2) := by kernel_rfl
@[go_sem] theorem shape188 : shapeOf Tryz.prog 188 = some none := by kernel_rfl
@[go_sem] theorem shape189 : shapeOf Tryz.prog 189 = some (some 18) := by kernel_rfl
@[go_sem] theorem shape190 : shapeOf Tryz.prog 190 = some (some 18) := by kernel_rfl
@[go_sem] theorem shape191 : shapeOf Tryz.prog 191 = some none := by kernel_rfl
@[go_sem] theorem shape192 : shapeOf Tryz.prog 192 = some none := by kernel_rfl
@[go_sem] theorem shape193 : shapeOf Tryz.prog 193 = some (some 1) := by kernel_rfl
@[go_sem] theorem shape194 : shapeOf Tryz.prog 194 = some (some 1) := by kernel_rfl
@[go_sem] theorem shape195 : shapeOf Tryz.prog 195 = some none := by kernel_rfl
@[go_sem] theorem shape196 : shapeOf Tryz.prog 196 = some none := by kernel_rfl
@[go_sem] theorem shape197 : shapeOf Tryz.prog 197 = some (some 5) := by kernel_rfl
@[go_sem] theorem shape198 : shapeOf Tryz.prog 198 = some (some 5) := by kernel_rfl
@[go_sem] theorem shape199 : shapeOf Tryz.prog 199 = some none := by kernel_rfl
@[go_sem] theorem shape201 : shapeOf Tryz.prog 201 = some none := by kernel_rfl
@[go_sem] theorem shape202 : shapeOf Tryz.prog 202 = some none := by kernel_rfl
@[go_sem] theorem shape203 : shapeOf Tryz.prog 203 = some none := by kernel_rfl
@[go_sem] theorem shape204 : shapeOf Tryz.prog 204 = some none := by kernel_rfl
@[go_sem] theorem shape205 : shapeOf Tryz.prog 205 = some none := by kernel_rfl
@[go_sem] theorem shape206 : shapeOf Tryz.prog 206 = some none := by kernel_rfl
@[go_sem] theorem shape207 : shapeOf Tryz.prog 207 = some none := by kernel_rfl
@[go_sem] theorem shape208 : shapeOf Tryz.prog 208 = some none := by kernel_rfl
@[go_sem] theorem shape209 : shapeOf Tryz.prog 209 = some (some 10) := by kernel_rfl
@[go_sem] theorem shape210 : shapeOf Tryz.prog 210 = some (some 10) := by kernel_rfl
@[go_sem] theorem shape212 : shapeOf Tryz.prog 212 = some none := by kernel_rfl
@[go_sem] theorem shape213 : shapeOf Tryz.prog 213 = some none := by kernel_rfl
@[go_sem] theorem shape214 : shapeOf Tryz.prog 214 = some (some 1) := by kernel_rfl
@[go_sem] theorem shape215 : shapeOf Tryz.prog 215 = some (some 1) := by kernel_rfl
@[go_sem] theorem shape217 : shapeOf Tryz.prog 217 = some none := by kernel_rfl
@[go_sem] theorem shape218 : shapeOf Tryz.prog 218 = some none := by kernel_rfl
@[go_sem] theorem shape219 : shapeOf Tryz.prog 219 = some (some 3) := by kernel_rfl
@[go_sem] theorem shape220 : shapeOf Tryz.prog 220 = some (some 3) := by kernel_rfl
@[go_sem] theorem shape222 : shapeOf Tryz.prog 222 = some none := by kernel_rfl
@[go_sem] theorem shape223 : shapeOf Tryz.prog 223 = some none := by kernel_rfl
@[go_sem] theorem shape224 : shapeOf Tryz.prog 224 = some (some 9) := by kernel_rfl
@[go_sem] theorem shape225 : shapeOf Tryz.prog 225 = some (some 9) := by kernel_rfl
@[go_sem] theorem shape226 : shapeOf Tryz.prog 226 = some none := by kernel_rfl
@[go_sem] theorem shape227 : shapeOf Tryz.prog 227 = some none := by kernel_rfl
@[go_sem] theorem shape228 : shapeOf Tryz.prog 228 = some none := by kernel_rfl
@[go_sem] theorem shape230 : shapeOf Tryz.prog 230 = some none := by kernel_rfl
@[go_sem] theorem shape231 : shapeOf Tryz.prog 231 = some none := by kernel_rfl
@[go_sem] theorem shape232 : shapeOf Tryz.prog 232 = some (some 37) := by kernel_rfl
@[go_sem] theorem shape233 : shapeOf Tryz.prog 233 = some (some 37) := by kernel_rfl
@[go_sem] theorem shape234 : shapeOf Tryz.prog 234 = some none := by kernel_rfl
@[go_sem] theorem shape235 : shapeOf Tryz.prog 235 = some none := by kernel_rfl
@[go_sem] theorem shape236 : shapeOf Tryz.prog 236 = some none := by kernel_rfl
@[go_sem] theorem shape237 : shapeOf Tryz.prog 237 = some (some 33) := by kernel_rfl
@[go_sem] theorem shape238 : shapeOf Tryz.prog 238 = some (some 33) := by kernel_rfl
@[go_sem] theorem shape239 : shapeOf Tryz.prog 239 = some none := by kernel_rfl
@[go_sem] theorem shape240 : shapeOf Tryz.prog 240 = some (some 35) := by kernel_rfl
@[go_sem] theorem shape241 : shapeOf Tryz.prog 241 = some (some 35) := by kernel_rfl
@[go_sem] theorem shape242 : shapeOf Tryz.prog 242 = some (some 66) := by kernel_rfl
@[go_sem] theorem shape243 : shapeOf Tryz.prog 243 = some (some 66) := by kernel_rfl
@[go_sem] theorem shape244 : shapeOf Tryz.prog 244 = some (some 4) := by kernel_rfl
@[go_sem] theorem shape245 : shapeOf Tryz.prog 245 = some (some 4) := by kernel_rfl
@[go_sem] theorem shape246 : shapeOf Tryz.prog 246 = some none := by kernel_rfl
@[go_sem] theorem shape247 : shapeOf Tryz.prog 247 = some none := by kernel_rfl
@[go_sem] theorem shape248 : shapeOf Tryz.prog 248 = some none := by kernel_rfl
@[go_sem] theorem shape249 : shapeOf Tryz.prog 249 = some none := by kernel_rfl
@[go_sem] theorem shape250 : shapeOf Tryz.prog 250 = some none := by kernel_rfl
@[go_sem] theorem shape251 : shapeOf Tryz.prog 251 = some none := by kernel_rfl
@[go_sem] theorem shape252 : shapeOf Tryz.prog 252 = some none := by kernel_rfl
@[go_sem] theorem shape254 : shapeOf Tryz.prog 254 = some none := by kernel_rfl
@[go_sem] theorem shape255 : shapeOf Tryz.prog 255 = some none := by kernel_rfl
@[go_sem] theorem shape256 : shapeOf Tryz.prog 256 = some none := by kernel_rfl
@[go_sem] theorem shape257 : shapeOf Tryz.prog 257 = some (some 4) := by kernel_rfl
@[go_sem] theorem shape258 : shapeOf Tryz.prog 258 = some (some 4) := by kernel_rfl
@[go_sem] theorem shape259 : shapeOf Tryz.prog 259 = some (some 33) := by kernel_rfl
@[go_sem] theorem shape260 : shapeOf Tryz.prog 260 = some (some 33) := by kernel_rfl
@[go_sem] theorem shape261 : shapeOf Tryz.prog 261 = some none := by kernel_rfl
@[go_sem] theorem shape263 : shapeOf Tryz.prog 263 = some none := by kernel_rfl
@[go_sem] theorem shape264 : shapeOf Tryz.prog 264 = some none := by kernel_rfl
@[go_sem] theorem shape265 : shapeOf Tryz.prog 265 = some none := by kernel_rfl
@[go_sem] theorem shape266 : shapeOf Tryz.prog 266 = some none := by kernel_rfl
@[go_sem] theorem shape267 : shapeOf Tryz.prog 267 = some none := by kernel_rfl
@[go_sem] theorem shape268 : shapeOf Tryz.prog 268 = some none := by kernel_rfl
@[go_sem] theorem shape269 : shapeOf Tryz.prog 269 = some (some 6) := by kernel_rfl
@[go_sem] theorem shape270 : shapeOf Tryz.prog 270 = some (some 6) := by kernel_rfl
@[go_sem] theorem shape271 : shapeOf Tryz.prog 271 = some none := by kernel_rfl
@[go_sem] theorem shape272 : shapeOf Tryz.prog 272 = some (some 3) := by kernel_rfl
@[go_sem] theorem shape273 : shapeOf Tryz.prog 273 = some (some 3) := by kernel_rfl
@[go_sem] theorem shape274 : shapeOf Tryz.prog 274 = some none := by kernel_rfl
@[go_sem] theorem shape276 : shapeOf Tryz.prog 276 = some none := by kernel_rfl
@[go_sem] theorem shape278 : shapeOf Tryz.prog 278 = some none := by kernel_rfl
@[go_sem] theorem shape279 : shapeOf Tryz.prog 279 = some none := by kernel_rfl
@[go_sem] theorem shape280 : shapeOf Tryz.prog 280 = some none := by kernel_rfl
@[go_sem] theorem shape281 : shapeOf Tryz.prog 281 = some none := by kernel_rfl
@[go_sem] theorem shape283 : shapeOf Tryz.prog 283 = some none := by kernel_rfl
@[go_sem] theorem shape285 : shapeOf Tryz.prog 285 = some none := by kernel_rfl
@[go_sem] theorem shape286 : shapeOf Tryz.prog 286 = some none := by kernel_rfl
@[go_sem] theorem shape287 : shapeOf Tryz.prog 287 = some none := by kernel_rfl
@[go_sem] theorem shape288 : shapeOf Tryz.prog 288 = some none := by kernel_rfl
@[go_sem] theorem shape289 : shapeOf Tryz.prog 289 = some none := by kernel_rfl
@[go_sem] theorem shape290 : shapeOf Tryz.prog 290 = some (some 6) := by kernel_rfl
@[go_sem] theorem shape291 : shapeOf Tryz.prog 291 = some (some 6) := by kernel_rfl
@[go_sem] theorem shape292 : shapeOf Tryz.prog 292 = some none := by kernel_rfl
@[go_sem] theorem shape293 : shapeOf Tryz.prog 293 = some (some 67) := by kernel_rfl
@[go_sem] theorem shape294 : shapeOf Tryz.prog 294 = some (some 67) := by kernel_rfl
@[go_sem] theorem shape296 : shapeOf Tryz.prog 296 = some none := by kernel_rfl
@[go_sem] theorem shape297 : shapeOf Tryz.prog 297 = some none := by kernel_rfl
@[go_sem] theorem shape298 : shapeOf Tryz.prog 298 = some (some 99) := by kernel_rfl
@[go_sem] theorem shape299 : shapeOf Tryz.prog 299 = some (some 99) := by kernel_rfl
@[go_sem] theorem shape300 : shapeOf Tryz.prog 300 = some none := by kernel_rfl
@[go_sem] theorem shape301 : shapeOf Tryz.prog 301 = some (some 5) := by kernel_rfl
@[go_sem] theorem shape302 : shapeOf Tryz.prog 302 = some (some 5) := by kernel_rfl
@[go_sem] theorem shape303 : shapeOf Tryz.prog 303 = some none := by kernel_rfl
@[go_sem] theorem shape304 : shapeOf Tryz.prog 304 = some (some 4) := by kernel_rfl
@[go_sem] theorem shape305 : shapeOf Tryz.prog 305 = some (some 4) := by kernel_rfl
@[go_sem] theorem shape307 : shapeOf Tryz.prog 307 = some none := by kernel_rfl
@[go_sem] theorem shape308 : shapeOf Tryz.prog 308 = some none := by kernel_rfl
@[go_sem] theorem shape309 : shapeOf Tryz.prog 309 = some none := by kernel_rfl
@[go_sem] theorem shape310 : shapeOf Tryz.prog 310 = some none := by kernel_rfl
@[go_sem] theorem shape311 : shapeOf Tryz.prog 311 = some (some 3) := by kernel_rfl
@[go_sem] theorem shape312 : shapeOf Tryz.prog 312 = some (some 3) := by kernel_rfl
@[go_sem] theorem shape313 : shapeOf Tryz.prog 313 = some none := by kernel_rfl
@[go_sem] theorem shape314 : shapeOf Tryz.prog 314 = some none := by kernel_rfl
@[go_sem] theorem shape316 : shapeOf Tryz.prog 316 = some none := by kernel_rfl
@[go_sem] theorem shape317 : shapeOf Tryz.prog 317 = some (some 3) := by kernel_rfl
@[go_sem] theorem shape318 : shapeOf Tryz.prog 318 = some (some 3) := by kernel_rfl
@[go_sem] theorem shape319 : shapeOf Tryz.prog 319 = some none := by kernel_rfl
@[go_sem] theorem shape320 : shapeOf Tryz.prog 320 = some none := by kernel_rfl
@[go_sem] theorem shape321 : shapeOf Tryz.prog 321 = some none := by kernel_rfl
@[go_sem] theorem shape323 : shapeOf Tryz.prog 323 = some none := by kernel_rfl
@[go_sem] theorem shape325 : shapeOf Tryz.prog 325 = some none := by kernel_rfl
@[go_sem] theorem shape326 : shapeOf Tryz.prog 326 = some none := by kernel_rfl
@[go_sem] theorem shape327 : shapeOf Tryz.prog 327 = some none := by kernel_rfl
@[go_sem] theorem shape329 : shapeOf Tryz.prog 329 = some none := by kernel_rfl
@[go_sem] theorem shape330 : shapeOf Tryz.prog 330 = some none := by kernel_rfl
@[go_sem] theorem shape331 : shapeOf Tryz.prog 331 = some none := by kernel_rfl
@[go_sem] theorem shape332 : shapeOf Tryz.prog 332 = some none := by kernel_rfl
@[go_sem] theorem shape333 : shapeOf Tryz.prog 333 = some (some 38) := by kernel_rfl
@[go_sem] theorem shape334 : shapeOf Tryz.prog 334 = some (some 38) := by kernel_rfl
@[go_sem] theorem shape335 : shapeOf Tryz.prog 335 = some none := by kernel_rfl
@[go_sem] theorem shape337 : shapeOf Tryz.prog 337 = some none := by kernel_rfl
@[go_sem] theorem shape338 : shapeOf Tryz.prog 338 = some (some 33) := by kernel_rfl
@[go_sem] theorem shape339 : shapeOf Tryz.prog 339 = some (some 33) := by kernel_rfl
@[go_sem] theorem shape341 : shapeOf Tryz.prog 341 = some none := by kernel_rfl
@[go_sem] theorem shape342 : shapeOf Tryz.prog 342 = some none := by kernel_rfl
@[go_sem] theorem shape343 : shapeOf Tryz.prog 343 = some none := by kernel_rfl
@[go_sem] theorem shape344 : shapeOf Tryz.prog 344 = some none := by kernel_rfl
@[go_sem] theorem shape345 : shapeOf Tryz.prog 345 = some none := by kernel_rfl
@[go_sem] theorem shape346 : shapeOf Tryz.prog 346 = some none := by kernel_rfl
@[go_sem] theorem shape348 : shapeOf Tryz.prog 348 = some none := by kernel_rfl
@[go_sem] theorem shape350 : shapeOf Tryz.prog 350 = some none := by kernel_rfl
@[go_sem] theorem shape352 : shapeOf Tryz.prog 352 = some none := by kernel_rfl
@[go_sem] theorem shape353 : shapeOf Tryz.prog 353 = some none := by kernel_rfl
@[go_sem] theorem shape354 : shapeOf Tryz.prog 354 = some none := by kernel_rfl
@[go_sem] theorem shape355 : shapeOf Tryz.prog 355 = some (some 3) := by kernel_rfl
@[go_sem] theorem shape356 : shapeOf Tryz.prog 356 = some (some 3) := by kernel_rfl
@[go_sem] theorem shape357 : shapeOf Tryz.prog 357 = some none := by kernel_rfl
@[go_sem] theorem shape358 : shapeOf Tryz.prog 358 = some none := by kernel_rfl
@[go_sem] theorem shape360 : shapeOf Tryz.prog 360 = some none := by kernel_rfl
@[go_sem] theorem shape361 : shapeOf Tryz.prog 361 = some none := by kernel_rfl
@[go_sem] theorem shape362 : shapeOf Tryz.prog 362 = some none := by kernel_rfl
@[go_sem] theorem shape363 : shapeOf Tryz.prog 363 = some none := by kernel_rfl
@[go_sem] theorem shape364 : shapeOf Tryz.prog 364 = some none := by kernel_rfl
@[go_sem] theorem shape365 : shapeOf Tryz.prog 365 = some none := by kernel_rfl
@[go_sem] theorem shape366 : shapeOf Tryz.prog 366 = some none := by kernel_rfl
@[go_sem] theorem shape367 : shapeOf Tryz.prog 367 = some none := by kernel_rfl
@[go_sem] theorem shape368 : shapeOf Tryz.prog 368 = some none := by kernel_rfl
@[go_sem] theorem shape369 : shapeOf Tryz.prog 369 = some none := by kernel_rfl
@[go_sem] theorem shape370 : shapeOf Tryz.prog 370 = some none := by kernel_rfl
@[go_sem] theorem shape371 : shapeOf Tryz.prog 371 = some none := by kernel_rfl
@[go_sem] theorem shape372 : shapeOf Tryz.prog 372 = some none := by kernel_rfl
@[go_sem] theorem shape373 : shapeOf Tryz.prog 373 = some (some 8) := by kernel_rfl
@[go_sem] theorem shape374 : shapeOf Tryz.prog 374 = some none := by kernel_rfl
@[go_sem] theorem shape375 : shapeOf Tryz.prog 375 = some (some 37) := by kernel_rfl
@[go_sem] theorem shape376 : shapeOf Tryz.prog 376 = some (some 37) := by kernel_rfl
@[go_sem] theorem shape377 : shapeOf Tryz.prog 377 = some none := by kernel_rfl
@[go_sem] theorem shape378 : shapeOf Tryz.prog 378 = some none := by kernel_rfl
@[go_sem] theorem shape380 : shapeOf Tryz.prog 380 = some none := by kernel_rfl
@[go_sem] theorem shape381 : shapeOf Tryz.prog 381 = some none := by kernel_rfl
@[go_sem] theorem shape382 : shapeOf Tryz.prog 382 = some none := by kernel_rfl
@[go_sem] theorem shape383 : shapeOf Tryz.prog 383 = some none := by kernel_rfl
@[go_sem] theorem shape385 : shapeOf Tryz.prog 385 = some none := by kernel_rfl
@[go_sem] theorem shape386 : shapeOf Tryz.prog 386 = some none := by kernel_rfl
@[go_sem] theorem shape387 : shapeOf Tryz.prog 387 = some none := by kernel_rfl
@[go_sem] theorem shape388 : shapeOf Tryz.prog 388 = some none := by kernel_rfl
@[go_sem] theorem shape389 : shapeOf Tryz.prog 389 = some none := by kernel_rfl
@[go_sem] theorem shape390 : shapeOf Tryz.prog 390 = some none := by kernel_rfl
@[go_sem] theorem shape391 : shapeOf Tryz.prog 391 = some none := by kernel_rfl
@[go_sem] theorem shape392 : shapeOf Tryz.prog 392 = some none := by kernel_rfl
@[go_sem] theorem shape393 : shapeOf Tryz.prog 393 = some (some 3) := by kernel_rfl
@[go_sem] theorem shape394 : shapeOf Tryz.prog 394 = some (some 3) := by kernel_rfl
@[go_sem] theorem shape395 : shapeOf Tryz.prog 395 = some none := by kernel_rfl
@[go_sem] theorem shape398 : shapeOf Tryz.prog 398 = some none := by kernel_rfl
@[go_sem] theorem shape399 : shapeOf Tryz.prog 399 = some none := by kernel_rfl
@[go_sem] theorem shape400 : shapeOf Tryz.prog 400 = some none := by kernel_rfl
@[go_sem] theorem shape402 : shapeOf Tryz.prog 402 = some none := by kernel_rfl
@[go_sem] theorem shape403 : shapeOf Tryz.prog 403 = some none := by kernel_rfl
@[go_sem] theorem shape404 : shapeOf Tryz.prog 404 = some none := by kernel_rfl
@[go_sem] theorem shape405 : shapeOf Tryz.prog 405 = some none := by kernel_rfl
@[go_sem] theorem shape406 : shapeOf Tryz.prog 406 = some (some 2) := by kernel_rfl
@[go_sem] theorem shape407 : shapeOf Tryz.prog 407 = some (some 2) := by kernel_rfl
@[go_sem] theorem shape408 : shapeOf Tryz.prog 408 = some none := by kernel_rfl
@[go_sem] theorem shape410 : shapeOf Tryz.prog 410 = some none := by kernel_rfl
@[go_sem] theorem shape411 : shapeOf Tryz.prog 411 = some none := by kernel_rfl
@[go_sem] theorem shape412 : shapeOf Tryz.prog 412 = some none := by kernel_rfl
@[go_sem] theorem shape413 : shapeOf Tryz.prog 413 = some none := by kernel_rfl
@[go_sem] theorem shape414 : shapeOf Tryz.prog 414 = some none := by kernel_rfl
@[go_sem] theorem shape416 : shapeOf Tryz.prog 416 = some none := by kernel_rfl
@[go_sem] theorem shape417 : shapeOf Tryz.prog 417 = some none := by kernel_rfl
@[go_sem] theorem shape419 : shapeOf Tryz.prog 419 = some none := by kernel_rfl
@[go_sem] theorem shape420 : shapeOf Tryz.prog 420 = some none := by kernel_rfl
@[go_sem] theorem shape421 : shapeOf Tryz.prog 421 = some none := by kernel_rfl
@[go_sem] theorem shape422 : shapeOf Tryz.prog 422 = some none := by kernel_rfl
@[go_sem] theorem shape423 : shapeOf Tryz.prog 423 = some none := by kernel_rfl
@[go_sem] theorem shape424 : shapeOf Tryz.prog 424 = some none := by kernel_rfl
@[go_sem] theorem shape425 : shapeOf Tryz.prog 425 = some none := by kernel_rfl
@[go_sem] theorem shape426 : shapeOf Tryz.prog 426 = some none := by kernel_rfl
@[go_sem] theorem shape427 : shapeOf Tryz.prog 427 = some none := by kernel_rfl
@[go_sem] theorem shape429 : shapeOf Tryz.prog 429 = some none := by kernel_rfl
@[go_sem] theorem shape430 : shapeOf Tryz.prog 430 = some none := by kernel_rfl
@[go_sem] theorem shape431 : shapeOf Tryz.prog 431 = some none := by kernel_rfl
@[go_sem] theorem shape432 : shapeOf Tryz.prog 432 = some none := by kernel_rfl
@[go_sem] theorem shape433 : shapeOf Tryz.prog 433 = some (some 5) := by kernel_rfl
@[go_sem] theorem shape434 : shapeOf Tryz.prog 434 = some (some 5) := by kernel_rfl
@[go_sem] theorem shape435 : shapeOf Tryz.prog 435 = some none := by kernel_rfl
@[go_sem] theorem shape437 : shapeOf Tryz.prog 437 = some none := by kernel_rfl
@[go_sem] theorem shape438 : shapeOf Tryz.prog 438 = some (some 66) := by kernel_rfl
@[go_sem] theorem shape439 : shapeOf Tryz.prog 439 = some (some 66) := by kernel_rfl
@[go_sem] theorem shape440 : shapeOf Tryz.prog 440 = some none := by kernel_rfl
@[go_sem] theorem shape441 : shapeOf Tryz.prog 441 = some none := by kernel_rfl
@[go_sem] theorem shape442 : shapeOf Tryz.prog 442 = some none := by kernel_rfl
@[go_sem] theorem shape443 : shapeOf Tryz.prog 443 = some none := by kernel_rfl
@[go_sem] theorem shape445 : shapeOf Tryz.prog 445 = some none := by kernel_rfl
@[go_sem] theorem shape447 : shapeOf Tryz.prog 447 = some none := by kernel_rfl
@[go_sem] theorem shape448 : shapeOf Tryz.prog 448 = some none := by kernel_rfl
@[go_sem] theorem shape449 : shapeOf Tryz.prog 449 = some none := by kernel_rfl
@[go_sem] theorem shape450 : shapeOf Tryz.prog 450 = some none := by kernel_rfl
@[go_sem] theorem shape451 : shapeOf Tryz.prog 451 = some none := by kernel_rfl
@[go_sem] theorem shape453 : shapeOf Tryz.prog 453 = some none := by kernel_rfl
@[go_sem] theorem shape454 : shapeOf Tryz.prog 454 = some none := by kernel_rfl
@[go_sem] theorem shape455 : shapeOf Tryz.prog 455 = some none := by kernel_rfl
@[go_sem] theorem shape456 : shapeOf Tryz.prog 456 = some none := by kernel_rfl
@[go_sem] theorem shape457 : shapeOf Tryz.prog 457 = some none := by kernel_rfl
@[go_sem] theorem shape458 : shapeOf Tryz.prog 458 = some none := by kernel_rfl
@[go_sem] theorem shape459 : shapeOf Tryz.prog 459 = some none := by kernel_rfl
@[go_sem] theorem shape460 : shapeOf Tryz.prog 460 = some none := by kernel_rfl
@[go_sem] theorem shape461 : shapeOf Tryz.prog 461 = some none := by kernel_rfl
@[go_sem] theorem shape462 : shapeOf Tryz.prog 462 = some none := by kernel_rfl
@[go_sem] theorem shape463 : shapeOf Tryz.prog 463 = some none := by kernel_rfl
@[go_sem] theorem shape464 : shapeOf Tryz.prog 464 = some none := by kernel_rfl
@[go_sem] theorem shape465 : shapeOf Tryz.prog 465 = some none := by kernel_rfl
@[go_sem] theorem shape466 : shapeOf Tryz.prog 466 = some none := by kernel_rfl
@[go_sem] theorem shape467 : shapeOf Tryz.prog 467 = some none := by kernel_rfl
@[go_sem] theorem shape468 : shapeOf Tryz.prog 468 = some (some 64) := by kernel_rfl
@[go_sem] theorem shape469 : shapeOf Tryz.prog 469 = some none := by kernel_rfl
@[go_sem] theorem shape470 : shapeOf Tryz.prog 470 = some none := by kernel_rfl
@[go_sem] theorem shape471 : shapeOf Tryz.prog 471 = some none := by kernel_rfl
@[go_sem] theorem shape472 : shapeOf Tryz.prog 472 = some none := by kernel_rfl
@[go_sem] theorem shape473 : shapeOf Tryz.prog 473 = some none := by kernel_rfl
@[go_sem] theorem shape475 : shapeOf Tryz.prog 475 = some none := by kernel_rfl
@[go_sem] theorem shape476 : shapeOf Tryz.prog 476 = some none := by kernel_rfl
@[go_sem] theorem shape477 : shapeOf Tryz.prog 477 = some none := by kernel_rfl
@[go_sem] theorem shape478 : shapeOf Tryz.prog 478 = some none := by kernel_rfl
@[go_sem] theorem shape479 : shapeOf Tryz.prog 479 = some none := by kernel_rfl
@[go_sem] theorem shape481 : shapeOf Tryz.prog 481 = some none := by kernel_rfl
@[go_sem] theorem shape482 : shapeOf Tryz.prog 482 = some (some 2) := by kernel_rfl
@[go_sem] theorem shape483 : shapeOf Tryz.prog 483 = some (some 2) := by kernel_rfl
@[go_sem] theorem shape484 : shapeOf Tryz.prog 484 = some none := by kernel_rfl
@[go_sem] theorem shape485 : shapeOf Tryz.prog 485 = some none := by kernel_rfl
@[go_sem] theorem shape486 : shapeOf Tryz.prog 486 = some none := by kernel_rfl
@[go_sem] theorem shape487 : shapeOf Tryz.prog 487 = some none := by kernel_rfl
@[go_sem] theorem shape489 : shapeOf Tryz.prog 489 = some none := by kernel_rfl
@[go_sem] theorem shape490 : shapeOf Tryz.prog 490 = some none := by kernel_rfl
@[go_sem] theorem shape491 : shapeOf Tryz.prog 491 = some none := by kernel_rfl
@[go_sem] theorem shape492 : shapeOf Tryz.prog 492 = some none := by kernel_rfl
@[go_sem] theorem shape493 : shapeOf Tryz.prog 493 = some none := by kernel_rfl
@[go_sem] theorem shape494 : shapeOf Tryz.prog 494 = some none := by kernel_rfl
@[go_sem] theorem shape495 : shapeOf Tryz.prog 495 = some none := by kernel_rfl
@[go_sem] theorem shape496 : shapeOf Tryz.prog 496 = some none := by kernel_rfl
@[go_sem] theorem shape497 : shapeOf Tryz.prog 497 = some none := by kernel_rfl
@[go_sem] theorem shape499 : shapeOf Tryz.prog 499 = some none := by kernel_rfl
@[go_sem] theorem shape500 : shapeOf Tryz.prog 500 = some none := by kernel_rfl
@[go_sem] theorem shape501 : shapeOf Tryz.prog 501 = some none := by kernel_rfl
@[go_sem] theorem shape502 : shapeOf Tryz.prog 502 = some none := by kernel_rfl
@[go_sem] theorem shape503 : shapeOf Tryz.prog 503 = some none := by kernel_rfl
@[go_sem] theorem shape504 : shapeOf Tryz.prog 504 = some (some 3) := by kernel_rfl
@[go_sem] theorem shape505 : shapeOf Tryz.prog 505 = some (some 3) := by kernel_rfl
@[go_sem] theorem shape506 : shapeOf Tryz.prog 506 = some none := by kernel_rfl
@[go_sem] theorem shape507 : shapeOf Tryz.prog 507 = some none := by kernel_rfl
@[go_sem] theorem shape508 : shapeOf Tryz.prog 508 = some none := by kernel_rfl
@[go_sem] theorem shape509 : shapeOf Tryz.prog 509 = some none := by kernel_rfl
@[go_sem] theorem shape510 : shapeOf Tryz.prog 510 = some none := by kernel_rfl
@[go_sem] theorem shape512 : shapeOf Tryz.prog 512 = some none := by kernel_rfl
@[go_sem] theorem shape513 : shapeOf Tryz.prog 513 = some none := by kernel_rfl
@[go_sem] theorem shape514 : shapeOf Tryz.prog 514 = some none := by kernel_rfl
@[go_sem] theorem shape515 : shapeOf Tryz.prog 515 = some none := by kernel_rfl
@[go_sem] theorem shape516 : shapeOf Tryz.prog 516 = some none := by kernel_rfl
@[go_sem] theorem shape517 : shapeOf Tryz.prog 517 = some none := by kernel_rfl
@[go_sem] theorem shape518 : shapeOf Tryz.prog 518 = some none := by kernel_rfl
@[go_sem] theorem shape519 : shapeOf Tryz.prog 519 = some none := by kernel_rfl
@[go_sem] theorem shape520 : shapeOf Tryz.prog 520 = some none := by kernel_rfl
@[go_sem] theorem shape521 : shapeOf Tryz.prog 521 = some none := by kernel_rfl
@[go_sem] theorem shape522 : shapeOf Tryz.prog 522 = some none := by kernel_rfl
@[go_sem] theorem shape523 : shapeOf Tryz.prog 523 = some none := by kernel_rfl
@[go_sem] theorem shape524 : shapeOf Tryz.prog 524 = some (some 33) := by kernel_rfl
@[go_sem] theorem shape525 : shapeOf Tryz.prog 525 = some (some 33) := by kernel_rfl
@[go_sem] theorem shape526 : shapeOf Tryz.prog 526 = some none := by kernel_rfl
@[go_sem] theorem shape527 : shapeOf Tryz.prog 527 = some none := by kernel_rfl
@[go_sem] theorem shape528 : shapeOf Tryz.prog 528 = some none := by kernel_rfl
@[go_sem] theorem shape529 : shapeOf Tryz.prog 529 = some none := by kernel_rfl
@[go_sem] theorem shape530 : shapeOf Tryz.prog 530 = some none := by kernel_rfl
@[go_sem] theorem shape531 : shapeOf Tryz.prog 531 = some none := by kernel_rfl
@[go_sem] theorem shape532 : shapeOf Tryz.prog 532 = some none := by kernel_rfl
@[go_sem] theorem shape533 : shapeOf Tryz.prog 533 = some none := by kernel_rfl
@[go_sem] theorem shape534 : shapeOf Tryz.prog 534 = some none := by kernel_rfl
@[go_sem] theorem shape535 : shapeOf Tryz.prog 535 = some none := by kernel_rfl
@[go_sem] theorem shape536 : shapeOf Tryz.prog 536 = some none := by kernel_rfl
@[go_sem] theorem shape537 : shapeOf Tryz.prog 537 = some none := by kernel_rfl
@[go_sem] theorem shape538 : shapeOf Tryz.prog 538 = some none := by kernel_rfl
@[go_sem] theorem shape539 : shapeOf Tryz.prog 539 = some none := by kernel_rfl
@[go_sem] theorem shape540 : shapeOf Tryz.prog 540 = some none := by kernel_rfl
@[go_sem] theorem shape541 : shapeOf Tryz.prog 541 = some (some 3) := by kernel_rfl
@[go_sem] theorem shape542 : shapeOf Tryz.prog 542 = some (some 3) := by kernel_rfl
@[go_sem] theorem shape543 : shapeOf Tryz.prog 543 = some (some 4) := by kernel_rfl
@[go_sem] theorem shape544 : shapeOf Tryz.prog 544 = some (some 4) := by kernel_rfl
@[go_sem] theorem shape545 : shapeOf Tryz.prog 545 = some none := by kernel_rfl
@[go_sem] theorem shape546 : shapeOf Tryz.prog 546 = some none := by kernel_rfl
@[go_sem] theorem shape547 : shapeOf Tryz.prog 547 = some (some 11) := by kernel_rfl
@[go_sem] theorem shape548 : shapeOf Tryz.prog 548 = some (some 11) := by kernel_rfl
@[go_sem] theorem shape549 : shapeOf Tryz.prog 549 = some none := by kernel_rfl
@[go_sem] theorem shape550 : shapeOf Tryz.prog 550 = some (some 3) := by kernel_rfl
@[go_sem] theorem shape551 : shapeOf Tryz.prog 551 = some (some 3) := by kernel_rfl
@[go_sem] theorem shape552 : shapeOf Tryz.prog 552 = some none := by kernel_rfl
@[go_sem] theorem shape553 : shapeOf Tryz.prog 553 = some none := by kernel_rfl
@[go_sem] theorem shape554 : shapeOf Tryz.prog 554 = some none := by kernel_rfl
@[go_sem] theorem shape555 : shapeOf Tryz.prog 555 = some none := by kernel_rfl
@[go_sem] theorem shape557 : shapeOf Tryz.prog 557 = some none := by kernel_rfl
@[go_sem] theorem shape558 : shapeOf Tryz.prog 558 = some none := by kernel_rfl
@[go_sem] theorem shape559 : shapeOf Tryz.prog 559 = some none := by kernel_rfl
@[go_sem] theorem shape560 : shapeOf Tryz.prog 560 = some none := by kernel_rfl
@[go_sem] theorem shape561 : shapeOf Tryz.prog 561 = some none := by kernel_rfl
@[go_sem] theorem shape562 : shapeOf Tryz.prog 562 = some none := by kernel_rfl
@[go_sem] theorem shape563 : shapeOf Tryz.prog 563 = some none := by kernel_rfl
@[go_sem] theorem shape564 : shapeOf Tryz.prog 564 = some none := by kernel_rfl
@[go_sem] theorem shape565 : shapeOf Tryz.prog 565 = some none := by kernel_rfl
@[go_sem] theorem shape566 : shapeOf Tryz.prog 566 = some none := by kernel_rfl
@[go_sem] theorem shape567 : shapeOf Tryz.prog 567 = some none := by kernel_rfl
@[go_sem] theorem shape568 : shapeOf Tryz.prog 568 = some none := by kernel_rfl
@[go_sem] theorem shape569 : shapeOf Tryz.prog 569 = some none := by kernel_rfl
@[go_sem] theorem shape570 : shapeOf Tryz.prog 570 = some none := by kernel_rfl
@[go_sem] theorem shape571 : shapeOf Tryz.prog 571 = some none := by kernel_rfl
@[go_sem] theorem shape572 : shapeOf Tryz.prog 572 = some (some 1) := by kernel_rfl
@[go_sem] theorem shape573 : shapeOf Tryz.prog 573 = some (some 1) := by kernel_rfl
@[go_sem] theorem shape574 : shapeOf Tryz.prog 574 = some none := by kernel_rfl
@[go_sem] theorem shape575 : shapeOf Tryz.prog 575 = some (some 0) := by kernel_rfl
@[go_sem] theorem shape576 : shapeOf Tryz.prog 576 = some (some 0) := by kernel_rfl
@[go_sem] theorem shape577 : shapeOf Tryz.prog 577 = some (some 1) := by kernel_rfl
@[go_sem] theorem shape578 : shapeOf Tryz.prog 578 = some (some 1) := by kernel_rfl
@[go_sem] theorem shape579 : shapeOf Tryz.prog 579 = some none := by kernel_rfl
@[go_sem] theorem shape580 : shapeOf Tryz.prog 580 = some none := by kernel_rfl
@[go_sem] theorem shape581 : shapeOf Tryz.prog 581 = some none := by kernel_rfl
@[go_sem] theorem shape582 : shapeOf Tryz.prog 582 = some none := by kernel_rfl
@[go_sem] theorem shape584 : shapeOf Tryz.prog 584 = some none := by kernel_rfl
@[go_sem] theorem shape585 : shapeOf Tryz.prog 585 = some none := by kernel_rfl
@[go_sem] theorem shape586 : shapeOf Tryz.prog 586 = some none := by kernel_rfl
@[go_sem] theorem shape587 : shapeOf Tryz.prog 587 = some none := by kernel_rfl
@[go_sem] theorem shape588 : shapeOf Tryz.prog 588 = some none := by kernel_rfl
@[go_sem] theorem shape589 : shapeOf Tryz.prog 589 = some none := by kernel_rfl
@[go_sem] theorem shape590 : shapeOf Tryz.prog 590 = some none := by kernel_rfl
@[go_sem] theorem shape591 : shapeOf Tryz.prog 591 = some none := by kernel_rfl
@[go_sem] theorem shape593 : shapeOf Tryz.prog 593 = some none := by kernel_rfl
@[go_sem] theorem shape594 : shapeOf Tryz.prog 594 = some none := by kernel_rfl
@[go_sem] theorem shape595 : shapeOf Tryz.prog 595 = some (some 66) := by kernel_rfl
@[go_sem] theorem shape596 : shapeOf Tryz.prog 596 = some (some 66) := by kernel_rfl
@[go_sem] theorem shape598 : shapeOf Tryz.prog 598 = some none := by kernel_rfl
@[go_sem] theorem shape601 : shapeOf Tryz.prog 601 = some (some 0) := by kernel_rfl
@[go_sem] theorem shape602 : shapeOf Tryz.prog 602 = some none := by kernel_rfl
@[go_sem] theorem shape603 : shapeOf Tryz.prog 603 = some none := by kernel_rfl
@[go_sem] theorem shape604 : shapeOf Tryz.prog 604 = some none := by kernel_rfl
@[go_sem] theorem shape605 : shapeOf Tryz.prog 605 = some none := by kernel_rfl
@[go_sem] theorem shape606 : shapeOf Tryz.prog 606 = some none := by kernel_rfl
@[go_sem] theorem shape607 : shapeOf Tryz.prog 607 = some none := by kernel_rfl
@[go_sem] theorem shape608 : shapeOf Tryz.prog 608 = some none := by kernel_rfl
@[go_sem] theorem shape609 : shapeOf Tryz.prog 609 = some none := by kernel_rfl
@[go_sem] theorem shape610 : shapeOf Tryz.prog 610 = some none := by kernel_rfl
@[go_sem] theorem shape611 : shapeOf Tryz.prog 611 = some none := by kernel_rfl
@[go_sem] theorem shape612 : shapeOf Tryz.prog 612 = some none := by kernel_rfl
@[go_sem] theorem shape613 : shapeOf Tryz.prog 613 = some none := by kernel_rfl
@[go_sem] theorem shape614 : shapeOf Tryz.prog 614 = some none := by kernel_rfl
@[go_sem] theorem shape615 : shapeOf Tryz.prog 615 = some none := by kernel_rfl
@[go_sem] theorem shape616 : shapeOf Tryz.prog 616 = some none := by kernel_rfl
@[go_sem] theorem shape617 : shapeOf Tryz.prog 617 = some none := by kernel_rfl
@[go_sem] theorem shape618 : shapeOf Tryz.prog 618 = some none := by kernel_rfl
@[go_sem] theorem shape619 : shapeOf Tryz.prog 619 = some none := by kernel_rfl
@[go_sem] theorem shape620 : shapeOf Tryz.prog 620 = some none := by kernel_rfl
@[go_sem] theorem shape621 : shapeOf Tryz.prog 621 = some none := by kernel_rfl
@[go_sem] theorem shape622 : shapeOf Tryz.prog 622 = some none := by kernel_rfl
@[go_sem] theorem shape623 : shapeOf Tryz.prog 623 = some none := by kernel_rfl
@[go_sem] theorem shape624 : shapeOf Tryz.prog 624 = some none := by kernel_rfl
@[go_sem] theorem shape625 : shapeOf Tryz.prog 625 = some none := by kernel_rfl
@[go_sem] theorem shape627 : shapeOf Tryz.prog 627 = some none := by kernel_rfl
@[go_sem] theorem shape628 : shapeOf Tryz.prog 628 = some none := by kernel_rfl
@[go_sem] theorem shape629 : shapeOf Tryz.prog 629 = some none := by kernel_rfl
@[go_sem] theorem shape630 : shapeOf Tryz.prog 630 = some none := by kernel_rfl
@[go_sem] theorem shape631 : shapeOf Tryz.prog 631 = some none := by kernel_rfl
@[go_sem] theorem shape633 : shapeOf Tryz.prog 633 = some none := by kernel_rfl
@[go_sem] theorem shape634 : shapeOf Tryz.prog 634 = some none := by kernel_rfl
@[go_sem] theorem shape635 : shapeOf Tryz.prog 635 = some none := by kernel_rfl
@[go_sem] theorem shape636 : shapeOf Tryz.prog 636 = some none := by kernel_rfl
@[go_sem] theorem shape637 : shapeOf Tryz.prog 637 = some none := by kernel_rfl
@[go_sem] theorem shape638 : shapeOf Tryz.prog 638 = some none := by kernel_rfl
@[go_sem] theorem shape640 : shapeOf Tryz.prog 640 = some none := by kernel_rfl
@[go_sem] theorem shape641 : shapeOf Tryz.prog 641 = some none := by kernel_rfl
@[go_sem] theorem shape642 : shapeOf Tryz.prog 642 = some none := by kernel_rfl
@[go_sem] theorem shape643 : shapeOf Tryz.prog 643 = some none := by kernel_rfl
@[go_sem] theorem shape644 : shapeOf Tryz.prog 644 = some none := by kernel_rfl
@[go_sem] theorem shape645 : shapeOf Tryz.prog 645 = some none := by kernel_rfl
@[go_sem] theorem shape646 : shapeOf Tryz.prog 646 = some none := by kernel_rfl
@[go_sem] theorem shape647 : shapeOf Tryz.prog 647 = some none := by kernel_rfl
@[go_sem] theorem shape648 : shapeOf Tryz.prog 648 = some none := by kernel_rfl
@[go_sem] theorem shape649 : shapeOf Tryz.prog 649 = some none := by kernel_rfl
@[go_sem] theorem shape650 : shapeOf Tryz.prog 650 = some none := by kernel_rfl
@[go_sem] theorem shape651 : shapeOf Tryz.prog 651 = some none := by kernel_rfl
@[go_sem] theorem shape652 : shapeOf Tryz.prog 652 = some none := by kernel_rfl
@[go_sem] theorem shape653 : shapeOf Tryz.prog 653 = some none := by kernel_rfl
@[go_sem] theorem shape654 : shapeOf Tryz.prog 654 = some none := by kernel_rfl
@[go_sem] theorem shape655 : shapeOf Tryz.prog 655 = some none := by kernel_rfl
@[go_sem] theorem shape656 : shapeOf Tryz.prog 656 = some none := by kernel_rfl
@[go_sem] theorem shape657 : shapeOf Tryz.prog 657 = some none := by kernel_rfl
@[go_sem] theorem shape658 : shapeOf Tryz.prog 658 = some none := by kernel_rfl
@[go_sem] theorem shape659 : shapeOf Tryz.prog 659 = some none := by kernel_rfl
@[go_sem] theorem shape660 : shapeOf Tryz.prog 660 = some none := by kernel_rfl
@[go_sem] theorem shape661 : shapeOf Tryz.prog 661 = some none := by kernel_rfl
@[go_sem] theorem shape662 : shapeOf Tryz.prog 662 = some none := by kernel_rfl
@[go_sem] theorem shape663 : shapeOf Tryz.prog 663 = some none := by kernel_rfl
@[go_sem] theorem shape664 : shapeOf Tryz.prog 664 = some none := by kernel_rfl
@[go_sem] theorem shape665 : shapeOf Tryz.prog 665 = some none := by kernel_rfl
@[go_sem] theorem shape666 : shapeOf Tryz.prog 666 = some none := by kernel_rfl
@[go_sem] theorem shape667 : shapeOf Tryz.prog 667 = some none := by kernel_rfl
@[go_sem] theorem shape668 : shapeOf Tryz.prog 668 = some none := by kernel_rfl
@[go_sem] theorem shape669 : shapeOf Tryz.prog 669 = some none := by kernel_rfl
@[go_sem] theorem shape670 : shapeOf Tryz.prog 670 = some none := by kernel_rfl
@[go_sem] theorem shape671 : shapeOf Tryz.prog 671 = some none := by kernel_rfl
@[go_sem] theorem shape672 : shapeOf Tryz.prog 672 = some none := by kernel_rfl
@[go_sem] theorem shape673 : shapeOf Tryz.prog 673 = some none := by kernel_rfl
@[go_sem] theorem shape674 : shapeOf Tryz.prog 674 = some none := by kernel_rfl
@[go_sem] theorem shape675 : shapeOf Tryz.prog 675 = some (some 4) := by kernel_rfl
@[go_sem] theorem shape676 : shapeOf Tryz.prog 676 = some (some 4) := by kernel_rfl
@[go_sem] theorem shape677 : shapeOf Tryz.prog 677 = some (some 0) := by kernel_rfl
@[go_sem] theorem shape678 : shapeOf Tryz.prog 678 = some (some 0) := by kernel_rfl
@[go_sem] theorem shape679 : shapeOf Tryz.prog 679 = some (some 0) := by kernel_rfl
@[go_sem] theorem shape680 : shapeOf Tryz.prog 680 = some none := by kernel_rfl
@[go_sem] theorem shape681 : shapeOf Tryz.prog 681 = some none := by kernel_rfl
@[go_sem] theorem shape682 : shapeOf Tryz.prog 682 = some none := by kernel_rfl
@[go_sem] theorem shape683 : shapeOf Tryz.prog 683 = some none := by kernel_rfl
@[go_sem] theorem shape684 : shapeOf Tryz.prog 684 = some none := by kernel_rfl
@[go_sem] theorem shape685 : shapeOf Tryz.prog 685 = some none := by kernel_rfl
@[go_sem] theorem shape686 : shapeOf Tryz.prog 686 = some (some 11) := by kernel_rfl
@[go_sem] theorem shape687 : shapeOf Tryz.prog 687 = some (some 11) := by kernel_rfl
@[go_sem] theorem shape688 : shapeOf Tryz.prog 688 = some none := by kernel_rfl
@[go_sem] theorem shape689 : shapeOf Tryz.prog 689 = some (some 3) := by kernel_rfl
@[go_sem] theorem shape690 : shapeOf Tryz.prog 690 = some (some 3) := by kernel_rfl
@[go_sem] theorem shape691 : shapeOf Tryz.prog 691 = some none := by kernel_rfl
@[go_sem] theorem shape692 : shapeOf Tryz.prog 692 = some none := by kernel_rfl
@[go_sem] theorem shape693 : shapeOf Tryz.prog 693 = some none := by kernel_rfl
@[go_sem] theorem shape694 : shapeOf Tryz.prog 694 = some (some 37) := by kernel_rfl
@[go_sem] theorem shape695 : shapeOf Tryz.prog 695 = some (some 37) := by kernel_rfl
@[go_sem] theorem shape696 : shapeOf Tryz.prog 696 = some none := by kernel_rfl
@[go_sem] theorem shape697 : shapeOf Tryz.prog 697 = some (some 34) := by kernel_rfl
@[go_sem] theorem shape698 : shapeOf Tryz.prog 698 = some (some 34) := by kernel_rfl
@[go_sem] theorem shape699 : shapeOf Tryz.prog 699 = some (some 2) := by kernel_rfl
@[go_sem] theorem shape700 : shapeOf Tryz.prog 700 = some (some 2) := by kernel_rfl
@[go_sem] theorem shape701 : shapeOf Tryz.prog 701 = some none := by kernel_rfl
@[go_sem] theorem shape702 : shapeOf Tryz.prog 702 = some (some 66) := by kernel_rfl
@[go_sem] theorem shape703 : shapeOf Tryz.prog 703 = some (some 1) := by kernel_rfl
@[go_sem] theorem shape704 : shapeOf Tryz.prog 704 = some (some 1) := by kernel_rfl
@[go_sem] theorem shape705 : shapeOf Tryz.prog 705 = some none := by kernel_rfl
@[go_sem] theorem shape706 : shapeOf Tryz.prog 706 = some (some 33) := by kernel_rfl
@[go_sem] theorem shape707 : shapeOf Tryz.prog 707 = some (some 33) := by kernel_rfl
@[go_sem] theorem shape708 : shapeOf Tryz.prog 708 = some (some 66) := by kernel_rfl
@[go_sem] theorem shape709 : shapeOf Tryz.prog 709 = some (some 34) := by kernel_rfl
@[go_sem] theorem shape710 : shapeOf Tryz.prog 710 = some (some 34) := by kernel_rfl
@[go_sem] theorem shape711 : shapeOf Tryz.prog 711 = some none := by kernel_rfl
@[go_sem] theorem shape712 : shapeOf Tryz.prog 712 = some (some 4) := by kernel_rfl
@[go_sem] theorem shape713 : shapeOf Tryz.prog 713 = some (some 4) := by kernel_rfl
theorem el2 : El Tryz.prog 2 1 8 := el_of (z := (.int .i64 0)) (by kernel_rfl) (by simp [Value.cells]) (by decide)
theorem el5 : El Tryz.prog 5 1 1 := el_of (z := (.int .u8 0)) (by kernel_rfl) (by simp [Value.cells]) (by decide)
theorem follows : Tryz.prog.follows .mixedOrders = true := by kernel_rfl
end Go.Proofs.YtmcbcoafodmbjaaGreatDoor
