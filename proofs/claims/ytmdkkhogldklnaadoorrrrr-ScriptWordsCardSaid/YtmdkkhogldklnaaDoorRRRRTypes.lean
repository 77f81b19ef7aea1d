/-
  Each type of the translation: how many cells a value of it takes. Written by a program off the dump.
-/
import Derived.Test.YtmdkkhogldklnaaDoorRRRRProg
import Derived.Test.YtmdkkhogldklnaaDoorRRRREng
namespace Go.Proofs.YtmdkkhogldklnaaDoorRRRR
@[go_sem] theorem shape1 : shapeOf Tryd.prog 1 = some none := by kernel_rfl
@[go_sem] theorem shape2 : shapeOf Tryd.prog 2 = some none := by kernel_rfl
@[go_sem] theorem shape3 : shapeOf Tryd.prog 3 = some none := by kernel_rfl
@[go_sem] theorem shape4 : shapeOf Tryd.prog 4 = some none := by kernel_rfl
@[go_sem] theorem shape5 : shapeOf Tryd.prog 5 = some none := by kernel_rfl
@[go_sem] theorem shape6 : shapeOf Tryd.prog 6 = some none := by kernel_rfl
@[go_sem] theorem shape7 : shapeOf Tryd.prog 7 = some (some 4) := by kernel_rfl
@[go_sem] theorem shape8 : shapeOf Tryd.prog 8 = some (some 4) := by kernel_rfl
@[go_sem] theorem shape9 : shapeOf Tryd.prog 9 = some none := by kernel_rfl
@[go_sem] theorem shape10 : shapeOf Tryd.prog 10 = some none := by kernel_rfl
@[go_sem] theorem shape11 : shapeOf Tryd.prog 11 = some none := by kernel_rfl
@[go_sem] theorem shape12 : shapeOf Tryd.prog 12 = some none := by kernel_rfl
@[go_sem] theorem shape13 : shapeOf Tryd.prog 13 = some (some 2) := by kernel_rfl
@[go_sem] theorem shape14 : shapeOf Tryd.prog 14 = some (some 2) := by kernel_rfl
@[go_sem] theorem shape15 : shapeOf Tryd.prog 15 = some none := by kernel_rfl
@[go_sem] theorem shape16 : shapeOf Tryd.prog 16 = some none := by kernel_rfl
@[go_sem] theorem shape17 : shapeOf Tryd.prog 17 = some none := by kernel_rfl
@[go_sem] theorem shape18 : shapeOf Tryd.prog 18 = some (some 1) := by kernel_rfl
@[go_sem] theorem shape19 : shapeOf Tryd.prog 19 = some (some 1) := by kernel_rfl
@[go_sem] theorem shape20 : shapeOf Tryd.prog 20 = some none := by kernel_rfl
@[go_sem] theorem shape21 : shapeOf Tryd.prog 21 = some none := by kernel_rfl
@[go_sem] theorem shape22 : shapeOf Tryd.prog 22 = some none := by kernel_rfl
@[go_sem] theorem shape23 : shapeOf Tryd.prog 23 = some none := by kernel_rfl
@[go_sem] theorem shape24 : shapeOf Tryd.prog 24 = some none := by kernel_rfl
@[go_sem] theorem shape26 : shapeOf Tryd.prog 26 = some none := by kernel_rfl
@[go_sem] theorem shape27 : shapeOf Tryd.prog 27 = some none := by kernel_rfl
@[go_sem] theorem shape29 : shapeOf Tryd.prog 29 = some none := by kernel_rfl
@[go_sem] theorem shape30 : shapeOf Tryd.prog 30 = some none := by kernel_rfl
@[go_sem] theorem shape31 : shapeOf Tryd.prog 31 = some none := by kernel_rfl
@[go_sem] theorem shape32 : shapeOf Tryd.prog 32 = some none := by kernel_rfl
@[go_sem] theorem shape33 : shapeOf Tryd.prog 33 = some none := by kernel_rfl
@[go_sem] theorem shape34 : shapeOf Tryd.prog 34 = some none := by kernel_rfl
@[go_sem] theorem shape35 : shapeOf Tryd.prog 35 = some none := by kernel_rfl
@[go_sem] theorem shape37 : shapeOf Tryd.prog 37 = some none := by kernel_rfl
@[go_sem] theorem shape38 : shapeOf Tryd.prog 38 = some none := by kernel_rfl
@[go_sem] theorem shape39 : shapeOf Tryd.prog 39 = some (some 6) := by kernel_rfl
@[go_sem] theorem shape40 : shapeOf Tryd.prog 40 = some (some 6) := by kernel_rfl
@[go_sem] theorem shape42 : shapeOf Tryd.prog 42 = some none := by kernel_rfl
@[go_sem] theorem shape43 : shapeOf Tryd.prog 43 = some none := by kernel_rfl
@[go_sem] theorem shape44 : shapeOf Tryd.prog 44 = some none := by kernel_rfl
@[go_sem] theorem shape45 : shapeOf Tryd.prog 45 = some none := by kernel_rfl
@[go_sem] theorem shape46 : shapeOf Tryd.prog 46 = some none := by kernel_rfl
@[go_sem] theorem shape48 : shapeOf Tryd.prog 48 = some none := by kernel_rfl
@[go_sem] theorem shape49 : shapeOf Tryd.prog 49 = some none := by kernel_rfl
@[go_sem] theorem shape50 : shapeOf Tryd.prog 50 = some none := by kernel_rfl
@[go_sem] theorem shape51 : shapeOf Tryd.prog 51 = some none := by kernel_rfl
@[go_sem] theorem shape52 : shapeOf Tryd.prog 52 = some none := by kernel_rfl
@[go_sem] theorem shape53 : shapeOf Tryd.prog 53 = some (some 2) := by kernel_rfl
@[go_sem] theorem shape54 : shapeOf Tryd.prog 54 = some (some 2) := by kernel_rfl
@[go_sem] theorem shape55 : shapeOf Tryd.prog 55 = some none := by kernel_rfl
@[go_sem] theorem shape56 : shapeOf Tryd.prog 56 = some none := by kernel_rfl
@[go_sem] theorem shape57 : shapeOf Tryd.prog 57 = some none := by kernel_rfl
@[go_sem] theorem shape58 : shapeOf Tryd.prog 58 = some none := by kernel_rfl
@[go_sem] theorem shape59 : shapeOf Tryd.prog 59 = some none := by kernel_rfl
@[go_sem] theorem shape60 : shapeOf Tryd.prog 60 = some none := by kernel_rfl
@[go_sem] theorem shape61 : shapeOf Tryd.prog 61 = some none := by kernel_rfl
@[go_sem] theorem shape62 : shapeOf Tryd.prog 62 = some none := by kernel_rfl
@[go_sem] theorem shape63 : shapeOf Tryd.prog 63 = some (some 2) := by kernel_rfl
@[go_sem] theorem shape64 : shapeOf Tryd.prog 64 = some (some 2) := by kernel_rfl
@[go_sem] theorem shape65 : shapeOf Tryd.prog 65 = some none := by kernel_rfl
@[go_sem] theorem shape66 : shapeOf Tryd.prog 66 = some none := by kernel_rfl
@[go_sem] theorem shape67 : shapeOf Tryd.prog 67 = some none := by kernel_rfl
@[go_sem] theorem shape69 : shapeOf Tryd.prog 69 = some none := by kernel_rfl
@[go_sem] theorem shape70 : shapeOf Tryd.prog 70 = some none := by kernel_rfl
@[go_sem] theorem shape71 : shapeOf Tryd.prog 71 = some none := by kernel_rfl
@[go_sem] theorem shape72 : shapeOf Tryd.prog 72 = some (some 24) := by kernel_rfl
@[go_sem] theorem shape73 : shapeOf Tryd.prog 73 = some none := by kernel_rfl
@[go_sem] theorem shape74 : shapeOf Tryd.prog 74 = some none := by kernel_rfl
@[go_sem] theorem shape76 : shapeOf Tryd.prog 76 = some none := by kernel_rfl
@[go_sem] theorem shape77 : shapeOf Tryd.prog 77 = some none := by kernel_rfl
@[go_sem] theorem shape78 : shapeOf Tryd.prog 78 = some none := by kernel_rfl
@[go_sem] theorem shape79 : shapeOf Tryd.prog 79 = some none := by kernel_rfl
@[go_sem] theorem shape80 : shapeOf Tryd.prog 80 = some (some 20) := by kernel_rfl
@[go_sem] theorem shape81 : shapeOf Tryd.prog 81 = some none := by kernel_rfl
@[go_sem] theorem shape82 : shapeOf Tryd.prog 82 = some (some 65) := by kernel_rfl
@[go_sem] theorem shape83 : shapeOf Tryd.prog 83 = some none := by kernel_rfl
@[go_sem] theorem shape84 : shapeOf Tryd.prog 84 = some none := by kernel_rfl
@[go_sem] theorem shape85 : shapeOf Tryd.prog 85 = some none := by kernel_rfl
@[go_sem] theorem shape86 : shapeOf Tryd.prog 86 = some none := by kernel_rfl
@[go_sem] theorem shape87 : shapeOf Tryd.prog 87 = some none := by kernel_rfl
@[go_sem] theorem shape88 : shapeOf Tryd.prog 88 = some (some 32) := by kernel_rfl
@[go_sem] theorem shape89 : shapeOf Tryd.prog 89 = some (some 64) := by kernel_rfl
@[go_sem] theorem shape90 : shapeOf Tryd.prog 90 = some (some 4) := by kernel_rfl
@[go_sem] theorem shape91 : shapeOf Tryd.prog 91 = some (some 4) := by kernel_rfl
@[go_sem] theorem shape92 : shapeOf Tryd.prog 92 = some (some 0) := by kernel_rfl
@[go_sem] theorem shape93 : shapeOf Tryd.prog 93 = some (some 0) := by kernel_rfl
@[go_sem] theorem shape94 : shapeOf Tryd.prog 94 = some (some 0) := by kernel_rfl
@[go_sem] theorem shape95 : shapeOf Tryd.prog 95 = some none := by kernel_rfl
@[go_sem] theorem shape96 : shapeOf Tryd.prog 96 = some none := by kernel_rfl
@[go_sem] theorem shape97 : shapeOf Tryd.prog 97 = some none := by kernel_rfl
@[go_sem] theorem shape98 : shapeOf Tryd.prog 98 = some none := by kernel_rfl
@[go_sem] theorem shape99 : shapeOf Tryd.prog 99 = some none := by kernel_rfl
@[go_sem] theorem shape100 : shapeOf Tryd.prog 100 = some none := by kernel_rfl
@[go_sem] theorem shape101 : shapeOf Tryd.prog 101 = some (some 11) := by kernel_rfl
@[go_sem] theorem shape102 : shapeOf Tryd.prog 102 = some (some 11) := by kernel_rfl
theorem el2 : El Tryd.prog 2 1 8 := el_of (z := (.int .i64 0)) (by kernel_rfl) (by simp [Value.cells]) (by decide)
theorem el5 : El Tryd.prog 5 1 1 := el_of (z := (.int .u8 0)) (by kernel_rfl) (by simp [Value.cells]) (by decide)
theorem el9 : El Tryd.prog 9 1 16 := el_of (z := (.string ByteArray.empty)) (by kernel_rfl) (by simp [Value.cells]) (by decide)
theorem el27 : El Tryd.prog 27 1 8 := el_of (z := (.int .u64 0)) (by kernel_rfl) (by simp [Value.cells]) (by decide)
theorem follows : Tryd.prog.follows .mixedOrders = true := by kernel_rfl
end Go.Proofs.YtmdkkhogldklnaaDoorRRRR
