/-
  Each type of the translation: how many cells a value of it takes. Written by a program off the dump.
-/
import Derived.Test.YtilpmnbnjeahnaaProg
import Derived.Test.YtilpmnbnjeahnaaEng
namespace Go.Proofs.Ytilpmnbnjeahnaa
@[go_sem] theorem shape1 : shapeOf Try.prog 1 = some none := by kernel_rfl
@[go_sem] theorem shape2 : shapeOf Try.prog 2 = some none := by kernel_rfl
@[go_sem] theorem shape3 : shapeOf Try.prog 3 = some none := by kernel_rfl
@[go_sem] theorem shape4 : shapeOf Try.prog 4 = some none := by kernel_rfl
@[go_sem] theorem shape5 : shapeOf Try.prog 5 = some none := by kernel_rfl
@[go_sem] theorem shape6 : shapeOf Try.prog 6 = some none := by kernel_rfl
@[go_sem] theorem shape7 : shapeOf Try.prog 7 = some (some 4) := by kernel_rfl
@[go_sem] theorem shape8 : shapeOf Try.prog 8 = some (some 4) := by kernel_rfl
@[go_sem] theorem shape9 : shapeOf Try.prog 9 = some none := by kernel_rfl
@[go_sem] theorem shape10 : shapeOf Try.prog 10 = some none := by kernel_rfl
@[go_sem] theorem shape11 : shapeOf Try.prog 11 = some none := by kernel_rfl
@[go_sem] theorem shape12 : shapeOf Try.prog 12 = some none := by kernel_rfl
@[go_sem] theorem shape13 : shapeOf Try.prog 13 = some (some 2) := by kernel_rfl
@[go_sem] theorem shape14 : shapeOf Try.prog 14 = some (some 2) := by kernel_rfl
@[go_sem] theorem shape15 : shapeOf Try.prog 15 = some none := by kernel_rfl
@[go_sem] theorem shape16 : shapeOf Try.prog 16 = some none := by kernel_rfl
@[go_sem] theorem shape17 : shapeOf Try.prog 17 = some none := by kernel_rfl
@[go_sem] theorem shape18 : shapeOf Try.prog 18 = some (some 1) := by kernel_rfl
@[go_sem] theorem shape19 : shapeOf Try.prog 19 = some (some 1) := by kernel_rfl
@[go_sem] theorem shape20 : shapeOf Try.prog 20 = some none := by kernel_rfl
@[go_sem] theorem shape21 : shapeOf Try.prog 21 = some none := by kernel_rfl
@[go_sem] theorem shape22 : shapeOf Try.prog 22 = some (some 5) := by kernel_rfl
@[go_sem] theorem shape23 : shapeOf Try.prog 23 = some (some 5) := by kernel_rfl
@[go_sem] theorem shape24 : shapeOf Try.prog 24 = some none := by kernel_rfl
@[go_sem] theorem shape25 : shapeOf Try.prog 25 = some none := by kernel_rfl
@[go_sem] theorem shape26 : shapeOf Try.prog 26 = some none := by kernel_rfl
@[go_sem] theorem shape28 : shapeOf Try.prog 28 = some none := by kernel_rfl
@[go_sem] theorem shape29 : shapeOf Try.prog 29 = some none := by kernel_rfl
@[go_sem] theorem shape30 : shapeOf Try.prog 30 = some none := by kernel_rfl
@[go_sem] theorem shape31 : shapeOf Try.prog 31 = some none := by kernel_rfl
@[go_sem] theorem shape32 : shapeOf Try.prog 32 = some none := by kernel_rfl
@[go_sem] theorem shape34 : shapeOf Try.prog 34 = some none := by kernel_rfl
@[go_sem] theorem shape35 : shapeOf Try.prog 35 = some (some 4) := by kernel_rfl
@[go_sem] theorem shape36 : shapeOf Try.prog 36 = some (some 4) := by kernel_rfl
@[go_sem] theorem shape37 : shapeOf Try.prog 37 = some none := by kernel_rfl
@[go_sem] theorem shape38 : shapeOf Try.prog 38 = some none := by kernel_rfl
@[go_sem] theorem shape39 : shapeOf Try.prog 39 = some none := by kernel_rfl
@[go_sem] theorem shape41 : shapeOf Try.prog 41 = some none := by kernel_rfl
@[go_sem] theorem shape42 : shapeOf Try.prog 42 = some none := by kernel_rfl
@[go_sem] theorem shape43 : shapeOf Try.prog 43 = some (some 4) := by kernel_rfl
@[go_sem] theorem shape44 : shapeOf Try.prog 44 = some (some 4) := by kernel_rfl
@[go_sem] theorem shape46 : shapeOf Try.prog 46 = some none := by kernel_rfl
@[go_sem] theorem shape47 : shapeOf Try.prog 47 = some none := by kernel_rfl
@[go_sem] theorem shape48 : shapeOf Try.prog 48 = some none := by kernel_rfl
@[go_sem] theorem shape49 : shapeOf Try.prog 49 = some none := by kernel_rfl
@[go_sem] theorem shape50 : shapeOf Try.prog 50 = some none := by kernel_rfl
@[go_sem] theorem shape51 : shapeOf Try.prog 51 = some none := by kernel_rfl
@[go_sem] theorem shape52 : shapeOf Try.prog 52 = some none := by kernel_rfl
@[go_sem] theorem shape53 : shapeOf Try.prog 53 = some none := by kernel_rfl
@[go_sem] theorem shape54 : shapeOf Try.prog 54 = some (some 2) := by kernel_rfl
@[go_sem] theorem shape55 : shapeOf Try.prog 55 = some (some 2) := by kernel_rfl
@[go_sem] theorem shape56 : shapeOf Try.prog 56 = some none := by kernel_rfl
@[go_sem] theorem shape58 : shapeOf Try.prog 58 = some none := by kernel_rfl
@[go_sem] theorem shape59 : shapeOf Try.prog 59 = some none := by kernel_rfl
@[go_sem] theorem shape60 : shapeOf Try.prog 60 = some none := by kernel_rfl
@[go_sem] theorem shape61 : shapeOf Try.prog 61 = some none := by kernel_rfl
@[go_sem] theorem shape62 : shapeOf Try.prog 62 = some none := by kernel_rfl
@[go_sem] theorem shape63 : shapeOf Try.prog 63 = some (some 10) := by kernel_rfl
@[go_sem] theorem shape64 : shapeOf Try.prog 64 = some (some 10) := by kernel_rfl
@[go_sem] theorem shape65 : shapeOf Try.prog 65 = some none := by kernel_rfl
@[go_sem] theorem shape66 : shapeOf Try.prog 66 = some none := by kernel_rfl
@[go_sem] theorem shape67 : shapeOf Try.prog 67 = some none := by kernel_rfl
@[go_sem] theorem shape68 : shapeOf Try.prog 68 = some none := by kernel_rfl
@[go_sem] theorem shape69 : shapeOf Try.prog 69 = some none := by kernel_rfl
@[go_sem] theorem shape70 : shapeOf Try.prog 70 = some none := by kernel_rfl
@[go_sem] theorem shape72 : shapeOf Try.prog 72 = some none := by kernel_rfl
@[go_sem] theorem shape73 : shapeOf Try.prog 73 = some none := by kernel_rfl
@[go_sem] theorem shape74 : shapeOf Try.prog 74 = some none := by kernel_rfl
@[go_sem] theorem shape75 : shapeOf Try.prog 75 = some (some 3) := by kernel_rfl
@[go_sem] theorem shape76 : shapeOf Try.prog 76 = some (some 3) := by kernel_rfl
@[go_sem] theorem shape78 : shapeOf Try.prog 78 = some none := by kernel_rfl
@[go_sem] theorem shape79 : shapeOf Try.prog 79 = some none := by kernel_rfl
@[go_sem] theorem shape80 : shapeOf Try.prog 80 = some none := by kernel_rfl
@[go_sem] theorem shape81 : shapeOf Try.prog 81 = some none := by kernel_rfl
@[go_sem] theorem shape82 : shapeOf Try.prog 82 = some none := by kernel_rfl
@[go_sem] theorem shape83 : shapeOf Try.prog 83 = some none := by kernel_rfl
@[go_sem] theorem shape84 : shapeOf Try.prog 84 = some none := by kernel_rfl
@[go_sem] theorem shape85 : shapeOf Try.prog 85 = some none := by kernel_rfl
@[go_sem] theorem shape86 : shapeOf Try.prog 86 = some none := by kernel_rfl
@[go_sem] theorem shape87 : shapeOf Try.prog 87 = some none := by kernel_rfl
@[go_sem] theorem shape88 : shapeOf Try.prog 88 = some none := by kernel_rfl
@[go_sem] theorem shape89 : shapeOf Try.prog 89 = some none := by kernel_rfl
@[go_sem] theorem shape90 : shapeOf Try.prog 90 = some none := by kernel_rfl
@[go_sem] theorem shape91 : shapeOf Try.prog 91 = some (some 9) := by kernel_rfl
@[go_sem] theorem shape92 : shapeOf Try.prog 92 = some (some 9) := by kernel_rfl
@[go_sem] theorem shape93 : shapeOf Try.prog 93 = some (some 4) := by kernel_rfl
@[go_sem] theorem shape94 : shapeOf Try.prog 94 = some (some 4) := by kernel_rfl
@[go_sem] theorem shape95 : shapeOf Try.prog 95 = some none := by kernel_rfl
@[go_sem] theorem shape96 : shapeOf Try.prog 96 = some none := by kernel_rfl
@[go_sem] theorem shape97 : shapeOf Try.prog 97 = some none := by kernel_rfl
@[go_sem] theorem shape98 : shapeOf Try.prog 98 = some none := by kernel_rfl
@[go_sem] theorem shape99 : shapeOf Try.prog 99 = some none := by kernel_rfl
@[go_sem] theorem shape100 : shapeOf Try.prog 100 = some none := by kernel_rfl
@[go_sem] theorem shape101 : shapeOf Try.prog 101 = some none := by kernel_rfl
@[go_sem] theorem shape102 : shapeOf Try.prog 102 = some none := by kernel_rfl
@[go_sem] theorem shape103 : shapeOf Try.prog 103 = some none := by kernel_rfl
@[go_sem] theorem shape104 : shapeOf Try.prog 104 = some none := by kernel_rfl
@[go_sem] theorem shape105 : shapeOf Try.prog 105 = some none := by kernel_rfl
@[go_sem] theorem shape106 : shapeOf Try.prog 106 = some none := by kernel_rfl
@[go_sem] theorem shape107 : shapeOf Try.prog 107 = some none := by kernel_rfl
@[go_sem] theorem shape109 : shapeOf Try.prog 109 = some none := by kernel_rfl
@[go_sem] theorem shape110 : shapeOf Try.prog 110 = some none := by kernel_rfl
@[go_sem] theorem shape111 : shapeOf Try.prog 111 = some none := by kernel_rfl
@[go_sem] theorem shape112 : shapeOf Try.prog 112 = some none := by kernel_rfl
@[go_sem] theorem shape114 : shapeOf Try.prog 114 = some none := by kernel_rfl
@[go_sem] theorem shape115 : shapeOf Try.prog 115 = some none := by kernel_rfl
@[go_sem] theorem shape116 : shapeOf Try.prog 116 = some none := by kernel_rfl
@[go_sem] theorem shape117 : shapeOf Try.prog 117 = some none := by kernel_rfl
@[go_sem] theorem shape118 : shapeOf Try.prog 118 = some none := by kernel_rfl
@[go_sem] theorem shape119 : shapeOf Try.prog 119 = some none := by kernel_rfl
@[go_sem] theorem shape120 : shapeOf Try.prog 120 = some none := by kernel_rfl
@[go_sem] theorem shape121 : shapeOf Try.prog 121 = some none := by kernel_rfl
@[go_sem] theorem shape122 : shapeOf Try.prog 122 = some none := by kernel_rfl
@[go_sem] theorem shape123 : shapeOf Try.prog 123 = some none := by kernel_rfl
@[go_sem] theorem shape125 : shapeOf Try.prog 125 = some none := by kernel_rfl
@[go_sem] theorem shape126 : shapeOf Try.prog 126 = some none := by kernel_rfl
@[go_sem] theorem shape127 : shapeOf Try.prog 127 = some (some 4) := by kernel_rfl
@[go_sem] theorem shape128 : shapeOf Try.prog 128 = some (some 4) := by kernel_rfl
@[go_sem] theorem shape129 : shapeOf Try.prog 129 = some (some 0) := by kernel_rfl
@[go_sem] theorem shape130 : shapeOf Try.prog 130 = some (some 0) := by kernel_rfl
@[go_sem] theorem shape131 : shapeOf Try.prog 131 = some (some 0) := by kernel_rfl
@[go_sem] theorem shape132 : shapeOf Try.prog 132 = some none := by kernel_rfl
@[go_sem] theorem shape133 : shapeOf Try.prog 133 = some none := by kernel_rfl
@[go_sem] theorem shape134 : shapeOf Try.prog 134 = some none := by kernel_rfl
@[go_sem] theorem shape135 : shapeOf Try.prog 135 = some none := by kernel_rfl
@[go_sem] theorem shape136 : shapeOf Try.prog 136 = some none := by kernel_rfl
@[go_sem] theorem shape137 : shapeOf Try.prog 137 = some none := by kernel_rfl
@[go_sem] theorem shape138 : shapeOf Try.prog 138 = some none := by kernel_rfl
@[go_sem] theorem shape139 : shapeOf Try.prog 139 = some (some 11) := by kernel_rfl
@[go_sem] theorem shape140 : shapeOf Try.prog 140 = some (some 11) := by kernel_rfl
@[go_sem] theorem shape141 : shapeOf Try.prog 141 = some none := by kernel_rfl
theorem el2 : El Try.prog 2 1 8 := el_of (z := (.int .i64 0)) (by kernel_rfl) (by simp [Value.cells]) (by decide)
theorem el3 : El Try.prog 3 1 8 := el_of (z := (.int .i64 0)) (by kernel_rfl) (by simp [Value.cells]) (by decide)
theorem el32 : El Try.prog 32 1 8 := el_of (z := (.pointer none)) (by kernel_rfl) (by simp [Value.cells]) (by decide)
theorem el36 : El Try.prog 36 4 32 := el_of (z := (.agg #[(.int .i64 0), (.int .i64 0), (.int .i64 0), (.int .i64 0)])) (by kernel_rfl) (by simp [Value.cells]) (by decide)
theorem el44 : El Try.prog 44 4 32 := el_of (z := (.agg #[(.int .i64 0), (.int .i64 0), (.int .i64 0), (.int .i64 0)])) (by kernel_rfl) (by simp [Value.cells]) (by decide)
theorem el55 : El Try.prog 55 2 16 := el_of (z := (.agg #[(.int .i64 0), (.int .i64 0)])) (by kernel_rfl) (by simp [Value.cells]) (by decide)
theorem el94 : El Try.prog 94 4 32 := el_of (z := (.agg #[(.int .i64 0), (.int .i64 0), (.int .i64 0), (.int .i64 0)])) (by kernel_rfl) (by simp [Value.cells]) (by decide)
theorem follows : Try.prog.follows .mixedOrders = true := by kernel_rfl
end Go.Proofs.Ytilpmnbnjeahnaa
