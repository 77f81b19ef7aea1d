/-
  Each type of the translation: how many cells a value of it takes. Written by a program off the dump.
-/
import Derived.Test.YtlhlfodmcffeoaaDoorProg
import Derived.Test.YtlhlfodmcffeoaaDoorEng
namespace Go.Proofs.YtlhlfodmcffeoaaDoor
@[go_sem] theorem shape2 : shapeOf Tryd.prog 2 = some none := by kernel_rfl
@[go_sem] theorem shape3 : shapeOf Tryd.prog 3 = some none := by kernel_rfl
@[go_sem] theorem shape4 : shapeOf Tryd.prog 4 = some none := by kernel_rfl
@[go_sem] theorem shape5 : shapeOf Tryd.prog 5 = some none := by kernel_rfl
@[go_sem] theorem shape6 : shapeOf Tryd.prog 6 = some none := by kernel_rfl
@[go_sem] theorem shape7 : shapeOf Tryd.prog 7 = some (some 4) := by kernel_rfl
@[go_sem] theorem shape8 : shapeOf Tryd.prog 8 = some (some 4) := by kernel_rfl
@[go_sem] theorem shape9 : shapeOf Tryd.prog 9 = some none := by kernel_rfl
@[go_sem] theorem shape10 : shapeOf Tryd.prog 10 = some none := by kernel_rfl
@[go_sem] theorem shape11 : shapeOf Tryd.prog 11 = some none := by kernel_rfl
@[go_sem] theorem shape12 : shapeOf Tryd.prog 12 = some none := by kernel_rfl
@[go_sem] theorem shape13 : shapeOf Tryd.prog 13 = some (some 2) := by kernel_rfl
@[go_sem] theorem shape14 : shapeOf Tryd.prog 14 = some (some 2) := by kernel_rfl
@[go_sem] theorem shape15 : shapeOf Tryd.prog 15 = some none := by kernel_rfl
@[go_sem] theorem shape16 : shapeOf Tryd.prog 16 = some none := by kernel_rfl
@[go_sem] theorem shape17 : shapeOf Tryd.prog 17 = some none := by kernel_rfl
@[go_sem] theorem shape18 : shapeOf Tryd.prog 18 = some (some 1) := by kernel_rfl
@[go_sem] theorem shape19 : shapeOf Tryd.prog 19 = some (some 1) := by kernel_rfl
@[go_sem] theorem shape20 : shapeOf Tryd.prog 20 = some none := by kernel_rfl
@[go_sem] theorem shape21 : shapeOf Tryd.prog 21 = some none := by kernel_rfl
@[go_sem] theorem shape22 : shapeOf Tryd.prog 22 = some (some 32) := by kernel_rfl
@[go_sem] theorem shape23 : shapeOf Tryd.prog 23 = some (some 32) := by kernel_rfl
@[go_sem] theorem shape29 : shapeOf Tryd.prog 29 = some none := by kernel_rfl
@[go_sem] theorem shape32 : shapeOf Tryd.prog 32 = some none := by kernel_rfl
@[go_sem] theorem shape34 : shapeOf Tryd.prog 34 = some none := by kernel_rfl
@[go_sem] theorem shape39 : shapeOf Tryd.prog 39 = some none := by kernel_rfl
@[go_sem] theorem shape41 : shapeOf Tryd.prog 41 = some none := by kernel_rfl
@[go_sem] theorem shape42 : shapeOf Tryd.prog 42 = some (some 8) := by kernel_rfl
@[go_sem] theorem shape43 : shapeOf Tryd.prog 43 = some (some 11) := by kernel_rfl
@[go_sem] theorem shape44 : shapeOf Tryd.prog 44 = some (some 11) := by kernel_rfl
@[go_sem] theorem shape45 : shapeOf Tryd.prog 45 = some none := by kernel_rfl
@[go_sem] theorem shape50 : shapeOf Tryd.prog 50 = some none := by kernel_rfl
@[go_sem] theorem shape54 : shapeOf Tryd.prog 54 = some none := by kernel_rfl
@[go_sem] theorem shape57 : shapeOf Tryd.prog 57 = some (some 64) := by kernel_rfl
@[go_sem] theorem shape64 : shapeOf Tryd.prog 64 = some (some 4) := by kernel_rfl
@[go_sem] theorem shape65 : shapeOf Tryd.prog 65 = some (some 4) := by kernel_rfl
@[go_sem] theorem shape66 : shapeOf Tryd.prog 66 = some (some 0) := by kernel_rfl
@[go_sem] theorem shape67 : shapeOf Tryd.prog 67 = some (some 0) := by kernel_rfl
@[go_sem] theorem shape68 : shapeOf Tryd.prog 68 = some (some 0) := by kernel_rfl
@[go_sem] theorem shape70 : shapeOf Tryd.prog 70 = some none := by kernel_rfl
@[go_sem] theorem shape71 : shapeOf Tryd.prog 71 = some none := by kernel_rfl
@[go_sem] theorem shape73 : shapeOf Tryd.prog 73 = some none := by kernel_rfl
@[go_sem] theorem shape74 : shapeOf Tryd.prog 74 = some none := by kernel_rfl
@[go_sem] theorem shape75 : shapeOf Tryd.prog 75 = some none := by kernel_rfl
@[go_sem] theorem shape76 : shapeOf Tryd.prog 76 = some (some 11) := by kernel_rfl
@[go_sem] theorem shape77 : shapeOf Tryd.prog 77 = some (some 11) := by kernel_rfl
@[go_sem] theorem shape78 : shapeOf Tryd.prog 78 = some none := by kernel_rfl
theorem el5 : El Tryd.prog 5 1 1 := el_of (z := (.int .u8 0)) (by kernel_rfl) (by simp [Value.cells]) (by decide)
theorem el29 : El Tryd.prog 29 1 24 := el_of (z := (.slice none 0 0)) (by kernel_rfl) (by simp [Value.cells]) (by decide)
theorem el32 : El Tryd.prog 32 1 8 := el_of (z := (.pointer none)) (by kernel_rfl) (by simp [Value.cells]) (by decide)
theorem follows : Tryd.prog.follows .mixedOrders = true := by kernel_rfl
end Go.Proofs.YtlhlfodmcffeoaaDoor
