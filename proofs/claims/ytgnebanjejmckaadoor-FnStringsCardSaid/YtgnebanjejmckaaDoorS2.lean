/- The codes of the program's functions, as data: each is what the translation holds. -/
import Derived.Test.YtgnebanjejmckaaDoorProg
import Derived.Test.YtgnebanjejmckaaDoorDq
import Derived.KernelRfl
set_option maxRecDepth 100000
namespace Go.Proofs.YtgnebanjejmckaaDoor
open Go Dl

/-- laws.FnCrashes -/
def h4 : Hints := {}
def s4 : SC :=
(.seq (.reg [⟨some 2, .assign (.const (.bool false)), none⟩])
 (.seq (.seq (.reg [⟨some 24, .move (.tmp 0), none⟩,
     ⟨some 25, .call ⟨.value (.func 7), ⟨[(.tmp 24)]⟩, ⟨[22]⟩⟩, none⟩])
   (.cond (.tmp 25)
    (.seq (.reg [⟨some 2, .assign (.const (.bool true)), none⟩])
     .ret)
    .skip))
  (.seq (.reg [⟨some 27, .move (.tmp 0), none⟩,
     ⟨some 28, .call ⟨.value (.func 26), ⟨[(.tmp 27)]⟩, ⟨[22]⟩⟩, none⟩,
     ⟨some 26, .move (.tmp 28), none⟩,
     ⟨some 29, .extract (.tmp 26) 0, none⟩,
     ⟨some 30, .extract (.tmp 26) 1, none⟩,
     ⟨some 31, .extract (.tmp 26) 2, none⟩,
     ⟨some 3, .alloc 33, none⟩,
     ⟨none, .store 33 (.tmp 3) (.tmp 29), none⟩,
     ⟨some 4, .assign (.tmp 30), none⟩,
     ⟨some 5, .assign (.tmp 31), none⟩])
   (.seq (.reg [⟨some 33, .load 33 (.tmp 3), none⟩,
      ⟨some 34, .move (.tmp 4), none⟩,
      ⟨some 35, .move (.tmp 5), none⟩,
      ⟨some 36, .call ⟨.value (.func 27), ⟨[(.tmp 33), (.tmp 34), (.tmp 35)]⟩, ⟨[33, 3, 4]⟩⟩, none⟩,
      ⟨some 32, .move (.tmp 36), none⟩,
      ⟨some 37, .extract (.tmp 32) 0, none⟩,
      ⟨some 38, .extract (.tmp 32) 1, none⟩,
      ⟨some 6, .assign (.tmp 37), none⟩,
      ⟨some 7, .assign (.tmp 38), none⟩])
    (.seq (.reg [⟨some 40, .load 33 (.tmp 3), none⟩,
       ⟨some 41, .move (.tmp 4), none⟩,
       ⟨some 42, .move (.tmp 5), none⟩,
       ⟨some 43, .call ⟨.value (.func 28), ⟨[(.tmp 40), (.tmp 41), (.tmp 42)]⟩, ⟨[33, 3, 4]⟩⟩, none⟩,
       ⟨some 39, .move (.tmp 43), none⟩,
       ⟨some 44, .extract (.tmp 39) 0, none⟩,
       ⟨some 45, .extract (.tmp 39) 1, none⟩,
       ⟨some 8, .assign (.tmp 44), none⟩,
       ⟨some 9, .assign (.tmp 45), none⟩])
     (.seq (.reg [⟨some 46, .move (.tmp 0), none⟩,
        ⟨some 47, .call ⟨.value (.func 10), ⟨[(.tmp 46), (.const (.int .i64 1))]⟩, ⟨[22, 3]⟩⟩, none⟩,
        ⟨some 48, .call ⟨.value (.func 29), ⟨[(.tmp 47)]⟩, ⟨[22]⟩⟩, none⟩,
        ⟨some 10, .assign (.tmp 48), none⟩])
      (.seq (.reg [⟨some 50, .move (.tmp 10), none⟩,
         ⟨some 51, .call ⟨.value (.func 30), ⟨[(.tmp 50)]⟩, ⟨[9]⟩⟩, none⟩,
         ⟨some 49, .move (.tmp 51), none⟩,
         ⟨some 52, .extract (.tmp 49) 0, none⟩,
         ⟨some 53, .extract (.tmp 49) 1, none⟩,
         ⟨some 54, .extract (.tmp 49) 2, none⟩,
         ⟨some 11, .alloc 33, none⟩,
         ⟨none, .store 33 (.tmp 11) (.tmp 52), none⟩,
         ⟨some 12, .assign (.tmp 53), none⟩,
         ⟨some 13, .assign (.tmp 54), none⟩])
       (.seq (.reg [⟨some 56, .move (.tmp 10), none⟩,
          ⟨some 57, .call ⟨.value (.func 31), ⟨[(.tmp 56)]⟩, ⟨[9]⟩⟩, none⟩,
          ⟨some 55, .move (.tmp 57), none⟩,
          ⟨some 58, .extract (.tmp 55) 0, none⟩,
          ⟨some 59, .extract (.tmp 55) 1, none⟩,
          ⟨some 60, .extract (.tmp 55) 2, none⟩,
          ⟨some 14, .alloc 33, none⟩,
          ⟨none, .store 33 (.tmp 14) (.tmp 58), none⟩,
          ⟨some 15, .assign (.tmp 59), none⟩,
          ⟨some 16, .assign (.tmp 60), none⟩])
        (.seq (.seq (.reg [⟨some 61, .move (.tmp 6), none⟩,
            ⟨some 62, .move (.tmp 8), none⟩,
            ⟨some 63, .binOp .neq 9 (.tmp 61) (.tmp 62) 9, none⟩,
            ⟨some 64, .move (.tmp 63), none⟩,
            ⟨some 65, .move (.tmp 7), some (64, false)⟩,
            ⟨some 66, .move (.tmp 9), some (64, false)⟩,
            ⟨some 67, .binOp .neq 4 (.tmp 65) (.tmp 66) 4, some (64, false)⟩,
            ⟨some 68, .pick (.tmp 64) (.const (.bool true)) (.tmp 67), none⟩,
            ⟨some 69, .move (.tmp 68), none⟩,
            ⟨some 70, .load 33 (.tmp 11), some (69, false)⟩,
            ⟨some 71, .load 33 (.tmp 14), some (69, false)⟩,
            ⟨some 72, .binOp .neq 33 (.tmp 70) (.tmp 71) 33, some (69, false)⟩,
            ⟨some 73, .pick (.tmp 69) (.const (.bool true)) (.tmp 72), none⟩,
            ⟨some 74, .move (.tmp 73), none⟩,
            ⟨some 75, .move (.tmp 12), some (74, false)⟩,
            ⟨some 76, .move (.tmp 15), some (74, false)⟩,
            ⟨some 77, .binOp .neq 3 (.tmp 75) (.tmp 76) 3, some (74, false)⟩,
            ⟨some 78, .pick (.tmp 74) (.const (.bool true)) (.tmp 77), none⟩,
            ⟨some 79, .move (.tmp 78), none⟩,
            ⟨some 80, .move (.tmp 13), some (79, false)⟩,
            ⟨some 81, .move (.tmp 16), some (79, false)⟩,
            ⟨some 82, .binOp .neq 4 (.tmp 80) (.tmp 81) 4, some (79, false)⟩,
            ⟨some 83, .pick (.tmp 79) (.const (.bool true)) (.tmp 82), none⟩])
          (.cond (.tmp 83)
           (.seq (.reg [⟨some 2, .assign (.const (.bool false)), none⟩])
            .ret)
           .skip))
         (.seq (.seq (.reg [⟨some 84, .move (.tmp 7), none⟩,
             ⟨some 85, .unOp .not 4 (.tmp 84), none⟩])
           (.cond (.tmp 85)
            (.seq (.reg [⟨some 2, .assign (.const (.bool true)), none⟩])
            .ret)
            .skip))
          (.seq (.reg [⟨some 87, .move (.tmp 6), none⟩,
             ⟨some 88, .call ⟨.value (.func 30), ⟨[(.tmp 87)]⟩, ⟨[9]⟩⟩, none⟩,
             ⟨some 86, .move (.tmp 88), none⟩,
             ⟨some 89, .extract (.tmp 86) 0, none⟩,
             ⟨some 90, .extract (.tmp 86) 1, none⟩,
             ⟨some 91, .extract (.tmp 86) 2, none⟩,
             ⟨some 17, .alloc 33, none⟩,
             ⟨none, .store 33 (.tmp 17) (.tmp 89), none⟩,
             ⟨some 18, .assign (.tmp 90), none⟩,
             ⟨some 19, .assign (.tmp 91), none⟩])
           (.seq (.seq (.reg [⟨some 92, .move (.tmp 19), none⟩,
             ⟨some 93, .unOp .not 4 (.tmp 92), none⟩,
             ⟨some 94, .move (.tmp 93), none⟩,
             ⟨some 95, .load 33 (.tmp 17), some (94, false)⟩,
             ⟨some 96, .call ⟨.value (.func 19), ⟨[(.tmp 95)]⟩, ⟨[33]⟩⟩, some (94, false)⟩,
             ⟨some 97, .unOp .not 4 (.tmp 96), some (94, false)⟩,
             ⟨some 98, .pick (.tmp 94) (.const (.bool true)) (.tmp 97), none⟩,
             ⟨some 99, .move (.tmp 98), none⟩,
             ⟨some 100, .move (.tmp 18), some (99, false)⟩,
             ⟨some 101, .fieldAddr 33 (.tmp 3) 0, some (99, false)⟩,
             ⟨some 102, .load 9 (.tmp 101), some (99, false)⟩,
             ⟨some 103, .call ⟨.builtin .len, ⟨[(.tmp 102)]⟩, ⟨[9]⟩⟩, some (99, false)⟩,
             ⟨some 104, .binOp .lss 3 (.tmp 100) (.tmp 103) 3, some (99, false)⟩,
             ⟨some 105, .pick (.tmp 99) (.const (.bool true)) (.tmp 104), none⟩,
             ⟨some 106, .move (.tmp 105), none⟩,
             ⟨some 107, .fieldAddr 33 (.tmp 17) 0, some (106, false)⟩,
             ⟨some 108, .load 9 (.tmp 107), some (106, false)⟩,
             ⟨some 109, .call ⟨.builtin .len, ⟨[(.tmp 108)]⟩, ⟨[9]⟩⟩, some (106, false)⟩,
             ⟨some 110, .move (.tmp 18), some (106, false)⟩,
             ⟨some 111, .binOp .neq 3 (.tmp 109) (.tmp 110) 3, some (106, false)⟩,
             ⟨some 112, .pick (.tmp 106) (.const (.bool true)) (.tmp 111), none⟩])
            (.cond (.tmp 112)
            (.seq (.reg [⟨some 2, .assign (.const (.bool false)), none⟩])
            .ret)
            .skip))
            (.seq (.reg [⟨some 114, .load 33 (.tmp 3), none⟩,
             ⟨some 115, .call ⟨.value (.func 23), ⟨[(.tmp 114)]⟩, ⟨[33]⟩⟩, none⟩,
             ⟨some 113, .move (.tmp 115), none⟩,
             ⟨some 116, .extract (.tmp 113) 0, none⟩,
             ⟨some 117, .extract (.tmp 113) 1, none⟩,
             ⟨some 20, .assign (.tmp 116), none⟩,
             ⟨some 21, .assign (.tmp 117), none⟩])
            (.seq (.reg [⟨some 119, .load 33 (.tmp 17), none⟩,
             ⟨some 120, .call ⟨.value (.func 23), ⟨[(.tmp 119)]⟩, ⟨[33]⟩⟩, none⟩,
             ⟨some 118, .move (.tmp 120), none⟩,
             ⟨some 121, .extract (.tmp 118) 0, none⟩,
             ⟨some 122, .extract (.tmp 118) 1, none⟩,
             ⟨some 22, .assign (.tmp 121), none⟩,
             ⟨some 23, .assign (.tmp 122), none⟩])
            (.seq (.reg [⟨some 123, .move (.tmp 22), none⟩,
             ⟨some 124, .call ⟨.builtin .len, ⟨[(.tmp 123)]⟩, ⟨[43]⟩⟩, none⟩,
             ⟨some 125, .move (.tmp 20), none⟩,
             ⟨some 126, .call ⟨.builtin .len, ⟨[(.tmp 125)]⟩, ⟨[43]⟩⟩, none⟩,
             ⟨some 127, .binOp .leq 3 (.tmp 124) (.tmp 126) 3, none⟩,
             ⟨some 128, .move (.tmp 127), none⟩,
             ⟨some 129, .move (.tmp 22), some (128, true)⟩,
             ⟨some 130, .move (.tmp 20), some (128, true)⟩,
             ⟨some 131, .move (.tmp 22), some (128, true)⟩,
             ⟨some 132, .call ⟨.builtin .len, ⟨[(.tmp 131)]⟩, ⟨[43]⟩⟩, some (128, true)⟩,
             ⟨some 133, .slice 43 (.tmp 130) none (some (.tmp 132)) none, some (128, true)⟩,
             ⟨some 134, .call ⟨.value (.func 25), ⟨[(.tmp 129), (.tmp 133)]⟩, ⟨[43, 43]⟩⟩, some (128, true)⟩,
             ⟨some 135, .pick (.tmp 128) (.tmp 134) (.const (.bool false)), none⟩,
             ⟨some 136, .move (.tmp 135), none⟩,
             ⟨some 137, .move (.tmp 5), some (136, true)⟩,
             ⟨some 138, .move (.tmp 137), some (136, true)⟩,
             ⟨some 139, .move (.tmp 4), some (138, false)⟩,
             ⟨some 140, .fieldAddr 33 (.tmp 3) 1, some (138, false)⟩,
             ⟨some 141, .load 9 (.tmp 140), some (138, false)⟩,
             ⟨some 142, .call ⟨.builtin .len, ⟨[(.tmp 141)]⟩, ⟨[9]⟩⟩, some (138, false)⟩,
             ⟨some 143, .binOp .lss 3 (.tmp 139) (.tmp 142) 3, some (138, false)⟩,
             ⟨some 144, .pick (.tmp 138) (.const (.bool true)) (.tmp 143), some (136, true)⟩,
             ⟨some 145, .move (.tmp 144), some (136, true)⟩,
             ⟨some 146, .move (.tmp 22), some (145, false)⟩,
             ⟨some 147, .call ⟨.builtin .len, ⟨[(.tmp 146)]⟩, ⟨[43]⟩⟩, some (145, false)⟩,
             ⟨some 148, .move (.tmp 20), some (145, false)⟩,
             ⟨some 149, .call ⟨.builtin .len, ⟨[(.tmp 148)]⟩, ⟨[43]⟩⟩, some (145, false)⟩,
             ⟨some 150, .binOp .eql 3 (.tmp 147) (.tmp 149) 3, some (145, false)⟩,
             ⟨some 151, .pick (.tmp 145) (.const (.bool true)) (.tmp 150), some (136, true)⟩,
             ⟨some 152, .pick (.tmp 136) (.tmp 151) (.const (.bool false)), none⟩,
             ⟨some 2, .assign (.tmp 152), none⟩])
            .ret)))))))))))))))
theorem F4 : IsFun Tryd.prog 4 h4 s4 [.tmp 2] 153 := ⟨_, Tryd.func4, by kernel_rfl, by kernel_rfl, by kernel_rfl, by kernel_rfl, by kernel_rfl⟩

/-- laws.szIntA4S -/
def h90 : Hints := {}
def s90 : SC :=
(.seq (.reg [⟨some 4, .assign (.const (.int .i64 0)), none⟩])
 (.seq (.reg [⟨some 5, .move (.tmp 1), none⟩,
    ⟨some 6, .move (.tmp 0), none⟩,
    ⟨some 7, .call ⟨.builtin .len, ⟨[(.tmp 6)]⟩, ⟨[52]⟩⟩, none⟩,
    ⟨some 8, .binOp .sub 3 (.tmp 5) (.tmp 7) 3, none⟩,
    ⟨some 1, .assign (.tmp 8), none⟩])
  (.seq (.seq (.reg [⟨some 9, .move (.tmp 1), none⟩,
      ⟨some 10, .binOp .lss 3 (.tmp 9) (.const (.int .i64 0)) 3, none⟩])
    (.cond (.tmp 10)
     (.seq (.reg [⟨some 4, .assign (.const (.int .i64 (-1))), none⟩])
      .ret)
     .skip))
   (.seq (.reg [⟨some 11, .move (.tmp 1), none⟩,
      ⟨some 4, .assign (.tmp 11), none⟩])
    .ret))))
theorem F90 : IsFun Tryd.prog 90 h90 s90 [.tmp 4] 12 := ⟨_, Tryd.func90, by kernel_rfl, by kernel_rfl, by kernel_rfl, by kernel_rfl, by kernel_rfl⟩

/-- laws.szTable -/
def h66 : Hints := {}
def s66 : SC :=
(.seq (.reg [⟨some 2, .box 54 (.tmp 0), none⟩,
   ⟨some 4, .assign (.const (.int .i64 0)), none⟩])
 (.seq (.reg [⟨some 5, .fieldAddr 54 (.tmp 2) 0, none⟩,
    ⟨some 6, .load 52 (.tmp 5), none⟩,
    ⟨some 7, .move (.tmp 1), none⟩,
    ⟨some 8, .call ⟨.value (.func 90), ⟨[(.tmp 6), (.tmp 7)]⟩, ⟨[52, 3]⟩⟩, none⟩,
    ⟨some 1, .assign (.tmp 8), none⟩])
  (.seq (.seq (.reg [⟨some 9, .move (.tmp 1), none⟩,
      ⟨some 10, .binOp .lss 3 (.tmp 9) (.const (.int .i64 0)) 3, none⟩])
    (.cond (.tmp 10)
     (.seq (.reg [⟨some 4, .assign (.const (.int .i64 (-1))), none⟩])
      .ret)
     .skip))
   (.seq (.reg [⟨some 11, .move (.tmp 1), none⟩,
      ⟨some 4, .assign (.tmp 11), none⟩])
    .ret))))
theorem F66 : IsFun Tryd.prog 66 h66 s66 [.tmp 4] 12 := ⟨_, Tryd.func66, by kernel_rfl, by kernel_rfl, by kernel_rfl, by kernel_rfl, by kernel_rfl⟩

/-- laws.szLog -/
def h67 : Hints := {}
def s67 : SC :=
(.seq (.reg [⟨some 2, .box 55 (.tmp 0), none⟩,
   ⟨some 4, .assign (.const (.int .i64 0)), none⟩])
 (.seq (.reg [⟨some 5, .move (.tmp 1), none⟩,
    ⟨some 6, .fieldAddr 55 (.tmp 2) 0, none⟩,
    ⟨some 7, .load 9 (.tmp 6), none⟩,
    ⟨some 8, .call ⟨.builtin .len, ⟨[(.tmp 7)]⟩, ⟨[9]⟩⟩, none⟩,
    ⟨some 9, .binOp .sub 3 (.tmp 5) (.tmp 8) 3, none⟩,
    ⟨some 1, .assign (.tmp 9), none⟩])
  (.seq (.seq (.reg [⟨some 10, .move (.tmp 1), none⟩,
      ⟨some 11, .binOp .lss 3 (.tmp 10) (.const (.int .i64 0)) 3, none⟩])
    (.cond (.tmp 11)
     (.seq (.reg [⟨some 4, .assign (.const (.int .i64 (-1))), none⟩])
      .ret)
     .skip))
   (.seq (.reg [⟨some 12, .move (.tmp 1), none⟩,
      ⟨some 13, .fieldAddr 55 (.tmp 2) 1, none⟩,
      ⟨some 14, .load 9 (.tmp 13), none⟩,
      ⟨some 15, .call ⟨.builtin .len, ⟨[(.tmp 14)]⟩, ⟨[9]⟩⟩, none⟩,
      ⟨some 16, .binOp .sub 3 (.tmp 12) (.tmp 15) 3, none⟩,
      ⟨some 1, .assign (.tmp 16), none⟩])
    (.seq (.seq (.reg [⟨some 17, .move (.tmp 1), none⟩,
        ⟨some 18, .binOp .lss 3 (.tmp 17) (.const (.int .i64 0)) 3, none⟩])
      (.cond (.tmp 18)
       (.seq (.reg [⟨some 4, .assign (.const (.int .i64 (-1))), none⟩])
        .ret)
       .skip))
     (.seq (.reg [⟨some 19, .move (.tmp 1), none⟩,
        ⟨some 4, .assign (.tmp 19), none⟩])
      .ret))))))
theorem F67 : IsFun Tryd.prog 67 h67 s67 [.tmp 4] 20 := ⟨_, Tryd.func67, by kernel_rfl, by kernel_rfl, by kernel_rfl, by kernel_rfl, by kernel_rfl⟩

/-- laws.szConsole -/
def h32 : Hints := {}
def s32 : SC :=
(.seq (.reg [⟨some 2, .box 57 (.tmp 0), none⟩,
   ⟨some 4, .assign (.const (.int .i64 0)), none⟩])
 (.seq (.reg [⟨some 5, .fieldAddr 57 (.tmp 2) 0, none⟩,
    ⟨some 6, .load 54 (.tmp 5), none⟩,
    ⟨some 7, .move (.tmp 1), none⟩,
    ⟨some 8, .call ⟨.value (.func 66), ⟨[(.tmp 6), (.tmp 7)]⟩, ⟨[54, 3]⟩⟩, none⟩,
    ⟨some 1, .assign (.tmp 8), none⟩])
  (.seq (.seq (.reg [⟨some 9, .move (.tmp 1), none⟩,
      ⟨some 10, .binOp .lss 3 (.tmp 9) (.const (.int .i64 0)) 3, none⟩])
    (.cond (.tmp 10)
     (.seq (.reg [⟨some 4, .assign (.const (.int .i64 (-1))), none⟩])
      .ret)
     .skip))
   (.seq (.reg [⟨some 11, .fieldAddr 57 (.tmp 2) 1, none⟩,
      ⟨some 12, .load 55 (.tmp 11), none⟩,
      ⟨some 13, .move (.tmp 1), none⟩,
      ⟨some 14, .call ⟨.value (.func 67), ⟨[(.tmp 12), (.tmp 13)]⟩, ⟨[55, 3]⟩⟩, none⟩,
      ⟨some 1, .assign (.tmp 14), none⟩])
    (.seq (.seq (.reg [⟨some 15, .move (.tmp 1), none⟩,
        ⟨some 16, .binOp .lss 3 (.tmp 15) (.const (.int .i64 0)) 3, none⟩])
      (.cond (.tmp 16)
       (.seq (.reg [⟨some 4, .assign (.const (.int .i64 (-1))), none⟩])
        .ret)
       .skip))
     (.seq (.reg [⟨some 17, .move (.tmp 1), none⟩,
        ⟨some 4, .assign (.tmp 17), none⟩])
      .ret))))))
theorem F32 : IsFun Tryd.prog 32 h32 s32 [.tmp 4] 18 := ⟨_, Tryd.func32, by kernel_rfl, by kernel_rfl, by kernel_rfl, by kernel_rfl, by kernel_rfl⟩

/-- spec.l2Card -/
def h101 : Hints := {}
def s101 : SC :=
(.seq (.reg [⟨some 1, .box 127 (.tmp 0), none⟩,
   ⟨some 2, .assign (.const (.bool false)), none⟩])
 (.seq (.seq (.reg [⟨some 3, .assign (.const (.int .i64 0)), none⟩])
   (.block 0 (.loop (.seq (.seq (.reg [⟨some 4, .move (.tmp 3), none⟩,
         ⟨some 5, .binOp .lss 3 (.tmp 4) (.const (.int .i64 4)) 3, none⟩])
       (.cond (.tmp 5)
        .skip
        (.exit 0)))
      (.seq (.block 1 (.seq (.reg [⟨some 8, .move (.tmp 3), none⟩,
           ⟨some 9, .indexAddr 127 (.tmp 1) (.tmp 8), none⟩,
           ⟨some 10, .load 3 (.tmp 9), none⟩,
           ⟨some 11, .call ⟨.value (.func 52), ⟨[(.tmp 10), (.const (.int .i64 0)), (.const (.int .i64 2))]⟩, ⟨[3, 3, 3]⟩⟩, none⟩,
           ⟨some 12, .unOp .not 4 (.tmp 11), none⟩])
         (.cond (.tmp 12)
          (.seq (.reg [⟨some 2, .assign (.const (.bool false)), none⟩])
           .ret)
          .skip)))
       (.reg [⟨some 6, .move (.tmp 3), none⟩,
         ⟨some 7, .binOp .add 3 (.tmp 6) (.const (.int .i64 1)) 3, none⟩,
         ⟨some 3, .assign (.tmp 7), none⟩]))))))
  (.seq (.reg [⟨some 2, .assign (.const (.bool true)), none⟩])
   .ret)))
theorem F101 : IsFun Tryd.prog 101 h101 s101 [.tmp 2] 13 := ⟨_, Tryd.func101, by kernel_rfl, by kernel_rfl, by kernel_rfl, by kernel_rfl, by kernel_rfl⟩

/-- spec.l2Number -/
def h117 : Hints := {}
def s117 : SC :=
(.seq (.reg [⟨some 1, .box 127 (.tmp 0), none⟩,
   ⟨some 2, .assign (.const (.int .i64 0)), none⟩])
 (.seq (.reg [⟨some 3, .indexAddr 127 (.tmp 1) (.const (.int .i64 0)), none⟩,
    ⟨some 4, .load 3 (.tmp 3), none⟩,
    ⟨some 5, .binOp .mul 3 (.const (.int .i64 27)) (.tmp 4) 3, none⟩,
    ⟨some 6, .indexAddr 127 (.tmp 1) (.const (.int .i64 1)), none⟩,
    ⟨some 7, .load 3 (.tmp 6), none⟩,
    ⟨some 8, .binOp .mul 3 (.const (.int .i64 9)) (.tmp 7) 3, none⟩,
    ⟨some 9, .binOp .add 3 (.tmp 5) (.tmp 8) 3, none⟩,
    ⟨some 10, .indexAddr 127 (.tmp 1) (.const (.int .i64 2)), none⟩,
    ⟨some 11, .load 3 (.tmp 10), none⟩,
    ⟨some 12, .binOp .mul 3 (.const (.int .i64 3)) (.tmp 11) 3, none⟩,
    ⟨some 13, .binOp .add 3 (.tmp 9) (.tmp 12) 3, none⟩,
    ⟨some 14, .indexAddr 127 (.tmp 1) (.const (.int .i64 3)), none⟩,
    ⟨some 15, .load 3 (.tmp 14), none⟩,
    ⟨some 16, .binOp .add 3 (.tmp 13) (.tmp 15) 3, none⟩,
    ⟨some 2, .assign (.tmp 16), none⟩])
  .ret))
theorem F117 : IsFun Tryd.prog 117 h117 s117 [.tmp 2] 17 := ⟨_, Tryd.func117, by kernel_rfl, by kernel_rfl, by kernel_rfl, by kernel_rfl, by kernel_rfl⟩

/-- spec.l2Less -/
def h102 : Hints := { trs := [], cps := [4], refs := [] }
def s102 : SC :=
(.seq (.reg [⟨some 2, .box 127 (.tmp 0), none⟩,
   ⟨some 3, .box 127 (.tmp 1), none⟩,
   ⟨some 4, .assign (.const (.bool false)), none⟩])
 (.seq (.regp [⟨some 5, .load 127 (.tmp 2), none⟩,
    ⟨some 7, .load 127 (.tmp 3), none⟩,
    ⟨some 6, .call ⟨.value (.func 117), ⟨[(.tmp 5)]⟩, ⟨[127]⟩⟩, none⟩,
    ⟨some 8, .call ⟨.value (.func 117), ⟨[(.tmp 7)]⟩, ⟨[127]⟩⟩, none⟩,
    ⟨some 9, .binOp .lss 3 (.tmp 6) (.tmp 8) 3, none⟩,
    ⟨some 4, .assign (.tmp 9), none⟩])
  .ret))
theorem F102 : IsFun Tryd.prog 102 h102 s102 [.tmp 4] 10 := ⟨_, Tryd.func102, by kernel_rfl, by kernel_rfl, by kernel_rfl, by kernel_rfl, by kernel_rfl⟩

/-- spec.l2Hand -/
def h91 : Hints := {}
def s91 : SC :=
(.seq (.reg [⟨some 2, .assign (.const (.bool false)), none⟩])
 (.seq (.seq (.reg [⟨some 3, .assign (.const (.int .i64 0)), none⟩])
   (.block 0 (.loop (.seq (.seq (.reg [⟨some 4, .move (.tmp 3), none⟩,
         ⟨some 5, .move (.tmp 0), none⟩,
         ⟨some 6, .call ⟨.builtin .len, ⟨[(.tmp 5)]⟩, ⟨[52]⟩⟩, none⟩,
         ⟨some 7, .binOp .lss 3 (.tmp 4) (.tmp 6) 3, none⟩,
         ⟨some 8, .move (.tmp 7), none⟩,
         ⟨some 9, .move (.tmp 3), some (8, true)⟩,
         ⟨some 10, .binOp .leq 3 (.tmp 9) (.const (.int .i64 27)) 3, some (8, true)⟩,
         ⟨some 11, .pick (.tmp 8) (.tmp 10) (.const (.bool false)), none⟩])
       (.cond (.tmp 11)
        .skip
        (.exit 0)))
      (.seq (.block 1 (.seq (.reg [⟨some 14, .move (.tmp 0), none⟩,
           ⟨some 15, .move (.tmp 3), none⟩,
           ⟨some 16, .indexAddr 52 (.tmp 14) (.tmp 15), none⟩,
           ⟨some 17, .load 127 (.tmp 16), none⟩,
           ⟨some 18, .call ⟨.value (.func 101), ⟨[(.tmp 17)]⟩, ⟨[127]⟩⟩, none⟩,
           ⟨some 19, .unOp .not 4 (.tmp 18), none⟩,
           ⟨some 20, .move (.tmp 19), none⟩,
           ⟨some 21, .move (.tmp 3), some (20, false)⟩,
           ⟨some 22, .binOp .gtr 3 (.tmp 21) (.const (.int .i64 0)) 3, some (20, false)⟩,
           ⟨some 23, .move (.tmp 22), some (20, false)⟩,
           ⟨some 24, .move (.tmp 0), some (23, true)⟩,
           ⟨some 25, .move (.tmp 3), some (23, true)⟩,
           ⟨some 26, .binOp .sub 3 (.tmp 25) (.const (.int .i64 1)) 3, some (23, true)⟩,
           ⟨some 27, .indexAddr 52 (.tmp 24) (.tmp 26), some (23, true)⟩,
           ⟨some 28, .load 127 (.tmp 27), some (23, true)⟩,
           ⟨some 29, .move (.tmp 0), some (23, true)⟩,
           ⟨some 30, .move (.tmp 3), some (23, true)⟩,
           ⟨some 31, .indexAddr 52 (.tmp 29) (.tmp 30), some (23, true)⟩,
           ⟨some 32, .load 127 (.tmp 31), some (23, true)⟩,
           ⟨some 33, .call ⟨.value (.func 102), ⟨[(.tmp 28), (.tmp 32)]⟩, ⟨[127, 127]⟩⟩, some (23, true)⟩,
           ⟨some 34, .unOp .not 4 (.tmp 33), some (23, true)⟩,
           ⟨some 35, .pick (.tmp 23) (.tmp 34) (.const (.bool false)), some (20, false)⟩,
           ⟨some 36, .pick (.tmp 20) (.const (.bool true)) (.tmp 35), none⟩])
         (.cond (.tmp 36)
          (.seq (.reg [⟨some 2, .assign (.const (.bool false)), none⟩])
           .ret)
          .skip)))
       (.reg [⟨some 12, .move (.tmp 3), none⟩,
         ⟨some 13, .binOp .add 3 (.tmp 12) (.const (.int .i64 1)) 3, none⟩,
         ⟨some 3, .assign (.tmp 13), none⟩]))))))
  (.seq (.reg [⟨some 37, .move (.tmp 0), none⟩,
     ⟨some 38, .call ⟨.builtin .len, ⟨[(.tmp 37)]⟩, ⟨[52]⟩⟩, none⟩,
     ⟨some 39, .binOp .leq 3 (.tmp 38) (.const (.int .i64 27)) 3, none⟩,
     ⟨some 2, .assign (.tmp 39), none⟩])
   .ret)))
theorem F91 : IsFun Tryd.prog 91 h91 s91 [.tmp 2] 40 := ⟨_, Tryd.func91, by kernel_rfl, by kernel_rfl, by kernel_rfl, by kernel_rfl, by kernel_rfl⟩

/-- spec.l12Good -/
def h68 : Hints := {}
def s68 : SC :=
(.seq (.reg [⟨some 1, .box 60 (.tmp 0), none⟩,
   ⟨some 2, .assign (.const (.bool false)), none⟩])
 (.seq (.reg [⟨some 3, .fieldAddr 60 (.tmp 1) 0, none⟩,
    ⟨some 4, .load 52 (.tmp 3), none⟩,
    ⟨some 5, .call ⟨.value (.func 91), ⟨[(.tmp 4)]⟩, ⟨[52]⟩⟩, none⟩,
    ⟨some 6, .move (.tmp 5), none⟩,
    ⟨some 7, .fieldAddr 60 (.tmp 1) 1, some (6, true)⟩,
    ⟨some 8, .load 3 (.tmp 7), some (6, true)⟩,
    ⟨some 9, .call ⟨.value (.func 52), ⟨[(.tmp 8), (.const (.int .i64 0)), (.const (.int .i64 1000))]⟩, ⟨[3, 3, 3]⟩⟩, some (6, true)⟩,
    ⟨some 10, .pick (.tmp 6) (.tmp 9) (.const (.bool false)), none⟩,
    ⟨some 11, .move (.tmp 10), none⟩,
    ⟨some 12, .fieldAddr 60 (.tmp 1) 2, some (11, true)⟩,
    ⟨some 13, .load 3 (.tmp 12), some (11, true)⟩,
    ⟨some 14, .call ⟨.value (.func 52), ⟨[(.tmp 13), (.const (.int .i64 0)), (.const (.int .i64 1000))]⟩, ⟨[3, 3, 3]⟩⟩, some (11, true)⟩,
    ⟨some 15, .pick (.tmp 11) (.tmp 14) (.const (.bool false)), none⟩,
    ⟨some 2, .assign (.tmp 15), none⟩])
  .ret))
theorem F68 : IsFun Tryd.prog 68 h68 s68 [.tmp 2] 16 := ⟨_, Tryd.func68, by kernel_rfl, by kernel_rfl, by kernel_rfl, by kernel_rfl, by kernel_rfl⟩

/-- spec.IsValidConsole -/
def h33 : Hints := {}
def s33 : SC :=
(.seq (.reg [⟨some 1, .box 62 (.tmp 0), none⟩,
   ⟨some 2, .assign (.const (.bool false)), none⟩])
 (.seq (.reg [⟨some 3, .fieldAddr 62 (.tmp 1) 0, none⟩,
    ⟨some 4, .load 60 (.tmp 3), none⟩,
    ⟨some 5, .call ⟨.value (.func 68), ⟨[(.tmp 4)]⟩, ⟨[60]⟩⟩, none⟩,
    ⟨some 6, .move (.tmp 5), none⟩,
    ⟨some 7, .fieldAddr 62 (.tmp 1) 1, some (6, true)⟩,
    ⟨some 8, .load 33 (.tmp 7), some (6, true)⟩,
    ⟨some 9, .call ⟨.value (.func 58), ⟨[(.tmp 8)]⟩, ⟨[33]⟩⟩, some (6, true)⟩,
    ⟨some 10, .pick (.tmp 6) (.tmp 9) (.const (.bool false)), none⟩,
    ⟨some 2, .assign (.tmp 10), none⟩])
  .ret))
theorem F33 : IsFun Tryd.prog 33 h33 s33 [.tmp 2] 11 := ⟨_, Tryd.func33, by kernel_rfl, by kernel_rfl, by kernel_rfl, by kernel_rfl, by kernel_rfl⟩

/-- laws.toIntA4 -/
def h103 : Hints := {}
def s103 : SC :=
(.seq (.reg [⟨some 1, .box 127 (.tmp 0), none⟩,
   ⟨some 2, .alloc 127, none⟩])
 (.seq (.reg [⟨some 3, .alloc 127, none⟩])
  (.seq (.seq (.reg [⟨some 4, .assign (.const (.int .i64 0)), none⟩])
    (.block 0 (.loop (.seq (.seq (.reg [⟨some 5, .move (.tmp 4), none⟩,
          ⟨some 6, .binOp .lss 3 (.tmp 5) (.const (.int .i64 4)) 3, none⟩])
        (.cond (.tmp 6)
         .skip
         (.exit 0)))
       (.seq (.block 1 (.reg [⟨some 9, .move (.tmp 4), none⟩,
           ⟨some 10, .move (.tmp 4), none⟩,
           ⟨some 11, .indexAddr 127 (.tmp 1) (.tmp 10), none⟩,
           ⟨some 12, .load 3 (.tmp 11), none⟩,
           ⟨some 13, .indexAddr 127 (.tmp 3) (.tmp 9), none⟩,
           ⟨none, .store 3 (.tmp 13) (.tmp 12), none⟩]))
        (.reg [⟨some 7, .move (.tmp 4), none⟩,
          ⟨some 8, .binOp .add 3 (.tmp 7) (.const (.int .i64 1)) 3, none⟩,
          ⟨some 4, .assign (.tmp 8), none⟩]))))))
   (.seq (.reg [⟨some 14, .load 127 (.tmp 3), none⟩,
      ⟨none, .store 127 (.tmp 2) (.tmp 14), none⟩])
    .ret))))
theorem F103 : IsFun Tryd.prog 103 h103 s103 [.cell 2 127] 15 := ⟨_, Tryd.func103, by kernel_rfl, by kernel_rfl, by kernel_rfl, by kernel_rfl, by kernel_rfl⟩

/-- laws.toIntA4S -/
def h92 : Hints := { trs := [22], cps := [], refs := [7] }
def s92 : SC :=
(.seq (.reg [⟨some 2, .assign (.const (.slice none 0 0)), none⟩])
 (.seq (.reg [⟨some 5, .move (.tmp 0), none⟩,
    ⟨some 6, .call ⟨.builtin .len, ⟨[(.tmp 5)]⟩, ⟨[52]⟩⟩, none⟩,
    ⟨some 7, .makeSlice 52 (.tmp 6) (.tmp 6), none⟩,
    ⟨some 3, .assign (.tmp 7), none⟩])
  (.seq (.seq (.reg [⟨some 4, .assign (.const (.int .i64 0)), none⟩])
    (.block 0 (.loop (.seq (.seq (.reg [⟨some 8, .move (.tmp 4), none⟩,
          ⟨some 9, .move (.tmp 0), none⟩,
          ⟨some 10, .call ⟨.builtin .len, ⟨[(.tmp 9)]⟩, ⟨[52]⟩⟩, none⟩,
          ⟨some 11, .binOp .lss 3 (.tmp 8) (.tmp 10) 3, none⟩])
        (.cond (.tmp 11)
         .skip
         (.exit 0)))
       (.seq (.block 1 (.reg [⟨some 14, .move (.tmp 3), none⟩,
           ⟨some 15, .move (.tmp 4), none⟩,
           ⟨some 16, .move (.tmp 0), none⟩,
           ⟨some 17, .move (.tmp 4), none⟩,
           ⟨some 18, .indexAddr 52 (.tmp 16) (.tmp 17), none⟩,
           ⟨some 19, .load 127 (.tmp 18), none⟩,
           ⟨some 20, .call ⟨.value (.func 103), ⟨[(.tmp 19)]⟩, ⟨[127]⟩⟩, none⟩,
           ⟨some 21, .indexAddr 52 (.tmp 14) (.tmp 15), none⟩,
           ⟨none, .store 127 (.tmp 21) (.tmp 20), none⟩]))
        (.reg [⟨some 12, .move (.tmp 4), none⟩,
          ⟨some 13, .binOp .add 3 (.tmp 12) (.const (.int .i64 1)) 3, none⟩,
          ⟨some 4, .assign (.tmp 13), none⟩]))))))
   (.seq (.reg [⟨some 22, .move (.tmp 3), none⟩,
      ⟨some 2, .assign (.tmp 22), none⟩])
    .ret))))
theorem F92 : IsFun Tryd.prog 92 h92 s92 [.tmp 2] 23 := ⟨_, Tryd.func92, by kernel_rfl, by kernel_rfl, by kernel_rfl, by kernel_rfl, by kernel_rfl⟩

/-- laws.toTable -/
def h69 : Hints := {}
def s69 : SC :=
(.seq (.reg [⟨some 1, .box 54 (.tmp 0), none⟩,
   ⟨some 2, .alloc 60, none⟩])
 (.seq (.reg [⟨some 3, .alloc 60, none⟩])
  (.seq (.reg [⟨some 4, .fieldAddr 54 (.tmp 1) 0, none⟩,
     ⟨some 5, .load 52 (.tmp 4), none⟩,
     ⟨some 6, .call ⟨.value (.func 92), ⟨[(.tmp 5)]⟩, ⟨[52]⟩⟩, none⟩,
     ⟨some 7, .fieldAddr 60 (.tmp 3) 0, none⟩,
     ⟨none, .store 52 (.tmp 7) (.tmp 6), none⟩])
   (.seq (.reg [⟨some 8, .fieldAddr 54 (.tmp 1) 1, none⟩,
      ⟨some 9, .load 3 (.tmp 8), none⟩,
      ⟨some 10, .fieldAddr 60 (.tmp 3) 1, none⟩,
      ⟨none, .store 3 (.tmp 10) (.tmp 9), none⟩])
    (.seq (.reg [⟨some 11, .fieldAddr 54 (.tmp 1) 2, none⟩,
       ⟨some 12, .load 3 (.tmp 11), none⟩,
       ⟨some 13, .fieldAddr 60 (.tmp 3) 2, none⟩,
       ⟨none, .store 3 (.tmp 13) (.tmp 12), none⟩])
     (.seq (.reg [⟨some 14, .load 60 (.tmp 3), none⟩,
        ⟨none, .store 60 (.tmp 2) (.tmp 14), none⟩])
      .ret))))))
theorem F69 : IsFun Tryd.prog 69 h69 s69 [.cell 2 60] 15 := ⟨_, Tryd.func69, by kernel_rfl, by kernel_rfl, by kernel_rfl, by kernel_rfl, by kernel_rfl⟩

/-- laws.toLog -/
def h70 : Hints := {}
def s70 : SC :=
(.seq (.reg [⟨some 1, .box 55 (.tmp 0), none⟩,
   ⟨some 2, .alloc 33, none⟩])
 (.seq (.reg [⟨some 3, .alloc 33, none⟩])
  (.seq (.reg [⟨some 4, .fieldAddr 55 (.tmp 1) 0, none⟩,
     ⟨some 5, .load 9 (.tmp 4), none⟩,
     ⟨some 6, .fieldAddr 33 (.tmp 3) 0, none⟩,
     ⟨none, .store 9 (.tmp 6) (.tmp 5), none⟩])
   (.seq (.reg [⟨some 7, .fieldAddr 55 (.tmp 1) 1, none⟩,
      ⟨some 8, .load 9 (.tmp 7), none⟩,
      ⟨some 9, .fieldAddr 33 (.tmp 3) 1, none⟩,
      ⟨none, .store 9 (.tmp 9) (.tmp 8), none⟩])
    (.seq (.reg [⟨some 10, .fieldAddr 55 (.tmp 1) 2, none⟩,
       ⟨some 11, .load 3 (.tmp 10), none⟩,
       ⟨some 12, .fieldAddr 33 (.tmp 3) 2, none⟩,
       ⟨none, .store 3 (.tmp 12) (.tmp 11), none⟩])
     (.seq (.reg [⟨some 13, .load 33 (.tmp 3), none⟩,
        ⟨none, .store 33 (.tmp 2) (.tmp 13), none⟩])
      .ret))))))
theorem F70 : IsFun Tryd.prog 70 h70 s70 [.cell 2 33] 14 := ⟨_, Tryd.func70, by kernel_rfl, by kernel_rfl, by kernel_rfl, by kernel_rfl, by kernel_rfl⟩

/-- laws.toConsole -/
def h34 : Hints := {}
def s34 : SC :=
(.seq (.reg [⟨some 1, .box 57 (.tmp 0), none⟩,
   ⟨some 2, .alloc 62, none⟩])
 (.seq (.reg [⟨some 3, .alloc 62, none⟩])
  (.seq (.reg [⟨some 4, .fieldAddr 57 (.tmp 1) 0, none⟩,
     ⟨some 5, .load 54 (.tmp 4), none⟩,
     ⟨some 6, .call ⟨.value (.func 69), ⟨[(.tmp 5)]⟩, ⟨[54]⟩⟩, none⟩,
     ⟨some 7, .fieldAddr 62 (.tmp 3) 0, none⟩,
     ⟨none, .store 60 (.tmp 7) (.tmp 6), none⟩])
   (.seq (.reg [⟨some 8, .fieldAddr 57 (.tmp 1) 1, none⟩,
      ⟨some 9, .load 55 (.tmp 8), none⟩,
      ⟨some 10, .call ⟨.value (.func 70), ⟨[(.tmp 9)]⟩, ⟨[55]⟩⟩, none⟩,
      ⟨some 11, .fieldAddr 62 (.tmp 3) 1, none⟩,
      ⟨none, .store 33 (.tmp 11) (.tmp 10), none⟩])
    (.seq (.reg [⟨some 12, .load 62 (.tmp 3), none⟩,
       ⟨none, .store 62 (.tmp 2) (.tmp 12), none⟩])
     .ret)))))
theorem F34 : IsFun Tryd.prog 34 h34 s34 [.cell 2 62] 13 := ⟨_, Tryd.func34, by kernel_rfl, by kernel_rfl, by kernel_rfl, by kernel_rfl, by kernel_rfl⟩

/-- slices.IndexFunc[[]int,int] -/
def h139 : Hints := {}
def s139 : SC :=
(.seq (.reg [⟨some 4, .assign (.const (.int .i64 0)), none⟩])
 (.seq (.seq (.reg [⟨some 6, .move (.tmp 0), none⟩,
     ⟨some 7, .call ⟨.builtin .len, ⟨[(.tmp 6)]⟩, ⟨[78]⟩⟩, none⟩,
     ⟨some 8, .move (.const (.int .i64 0)), none⟩])
   (.block 0 (.loop (.seq (.reg [⟨some 9, .binOp .lss 3 (.tmp 8) (.tmp 7) 3, none⟩])
      (.seq (.cond (.tmp 9)
        .skip
        (.exit 0))
       (.seq (.block 1 (.seq (.reg [⟨some 10, .move (.tmp 8), none⟩,
            ⟨some 5, .assign (.tmp 10), none⟩])
          (.seq (.reg [⟨some 11, .move (.tmp 1), none⟩,
             ⟨some 12, .move (.tmp 0), none⟩,
             ⟨some 13, .move (.tmp 5), none⟩,
             ⟨some 14, .indexAddr 78 (.tmp 12) (.tmp 13), none⟩,
             ⟨some 15, .load 3 (.tmp 14), none⟩,
             ⟨some 16, .call ⟨.value (.tmp 11), ⟨[(.tmp 15)]⟩, ⟨[3]⟩⟩, none⟩])
           (.cond (.tmp 16)
            (.seq (.reg [⟨some 17, .move (.tmp 5), none⟩,
             ⟨some 4, .assign (.tmp 17), none⟩])
            .ret)
            .skip))))
        (.reg [⟨some 18, .binOp .add 3 (.tmp 8) (.const (.int .i64 1)) 3, none⟩,
          ⟨some 8, .move (.tmp 18), none⟩])))))))
  (.seq (.reg [⟨some 4, .assign (.const (.int .i64 (-1))), none⟩])
   .ret)))
theorem F139 : IsFun Tryd.prog 139 h139 s139 [.tmp 4] 19 := ⟨_, Tryd.func139, by kernel_rfl, by kernel_rfl, by kernel_rfl, by kernel_rfl, by kernel_rfl⟩

/-- slices.ContainsFunc[[]int,int] -/
def h131 : Hints := {}
def s131 : SC :=
(.seq (.reg [⟨some 4, .assign (.const (.bool false)), none⟩])
 (.seq (.reg [⟨some 5, .move (.tmp 0), none⟩,
    ⟨some 6, .move (.tmp 1), none⟩,
    ⟨some 7, .call ⟨.value (.func 139), ⟨[(.tmp 5), (.tmp 6)]⟩, ⟨[78, 83]⟩⟩, none⟩,
    ⟨some 8, .binOp .geq 3 (.tmp 7) (.const (.int .i64 0)) 3, none⟩,
    ⟨some 4, .assign (.tmp 8), none⟩])
  .ret))
theorem F131 : IsFun Tryd.prog 131 h131 s131 [.tmp 4] 9 := ⟨_, Tryd.func131, by kernel_rfl, by kernel_rfl, by kernel_rfl, by kernel_rfl, by kernel_rfl⟩

/-- impl.allWithin -/
def h118 : Hints := {}
def s118 : SC :=
(.seq (.reg [⟨some 4, .box 3 (.tmp 1), none⟩,
   ⟨some 5, .box 3 (.tmp 2), none⟩,
   ⟨some 6, .assign (.const (.bool false)), none⟩])
 (.seq (.reg [⟨some 7, .move (.tmp 0), none⟩,
    ⟨some 8, .makeFunc (.func 132) ⟨[]⟩ ⟨[(.tmp 4), (.tmp 5)]⟩, none⟩,
    ⟨some 9, .call ⟨.value (.func 131), ⟨[(.tmp 7), (.tmp 8)]⟩, ⟨[78, 83]⟩⟩, none⟩,
    ⟨some 10, .unOp .not 4 (.tmp 9), none⟩,
    ⟨some 6, .assign (.tmp 10), none⟩])
  .ret))
theorem F118 : IsFun Tryd.prog 118 h118 s118 [.tmp 6] 11 := ⟨_, Tryd.func118, by kernel_rfl, by kernel_rfl, by kernel_rfl, by kernel_rfl, by kernel_rfl⟩

/-- impl.IsCard -/
def h104 : Hints := {}
def s104 : SC :=
(.seq (.reg [⟨some 1, .box 127 (.tmp 0), none⟩,
   ⟨some 2, .assign (.const (.bool false)), none⟩])
 (.seq (.reg [⟨some 3, .slice 127 (.tmp 1) none none none, none⟩,
    ⟨some 4, .call ⟨.value (.func 118), ⟨[(.tmp 3), (.const (.int .i64 0)), (.const (.int .i64 2))]⟩, ⟨[78, 3, 3]⟩⟩, none⟩,
    ⟨some 2, .assign (.tmp 4), none⟩])
  .ret))
theorem F104 : IsFun Tryd.prog 104 h104 s104 [.tmp 2] 5 := ⟨_, Tryd.func104, by kernel_rfl, by kernel_rfl, by kernel_rfl, by kernel_rfl, by kernel_rfl⟩

/-- impl.number -/
def h105 : Hints := {}
def s105 : SC :=
(.seq (.reg [⟨some 1, .box 127 (.tmp 0), none⟩,
   ⟨some 2, .assign (.const (.int .i64 0)), none⟩])
 (.seq (.reg [⟨some 3, .assign (.const (.int .i64 0)), none⟩])
  (.seq (.seq (.reg [⟨some 6, .load 127 (.tmp 1), none⟩,
      ⟨some 7, .move (.const (.int .i64 0)), none⟩])
    (.block 0 (.loop (.seq (.reg [⟨some 8, .binOp .lss 3 (.tmp 7) (.const (.int .i64 4)) 3, none⟩])
       (.seq (.cond (.tmp 8)
         .skip
         (.exit 0))
        (.seq (.block 1 (.seq (.reg [⟨some 9, .index 127 (.tmp 6) (.tmp 7), none⟩,
             ⟨some 5, .assign (.tmp 9), none⟩])
           (.reg [⟨some 10, .move (.tmp 3), none⟩,
             ⟨some 11, .binOp .mul 3 (.const (.int .i64 3)) (.tmp 10) 3, none⟩,
             ⟨some 12, .move (.tmp 5), none⟩,
             ⟨some 13, .binOp .add 3 (.tmp 11) (.tmp 12) 3, none⟩,
             ⟨some 3, .assign (.tmp 13), none⟩])))
         (.reg [⟨some 14, .binOp .add 3 (.tmp 7) (.const (.int .i64 1)) 3, none⟩,
           ⟨some 7, .move (.tmp 14), none⟩])))))))
   (.seq (.reg [⟨some 15, .move (.tmp 3), none⟩,
      ⟨some 2, .assign (.tmp 15), none⟩])
    .ret))))
theorem F105 : IsFun Tryd.prog 105 h105 s105 [.tmp 2] 16 := ⟨_, Tryd.func105, by kernel_rfl, by kernel_rfl, by kernel_rfl, by kernel_rfl, by kernel_rfl⟩

/-- impl.IsHand -/
def h93 : Hints := {}
def s93 : SC :=
(.seq (.reg [⟨some 2, .assign (.const (.bool false)), none⟩])
 (.seq (.seq (.reg [⟨some 5, .move (.tmp 0), none⟩,
     ⟨some 6, .call ⟨.builtin .len, ⟨[(.tmp 5)]⟩, ⟨[52]⟩⟩, none⟩,
     ⟨some 7, .move (.const (.int .i64 0)), none⟩])
   (.block 0 (.loop (.seq (.reg [⟨some 8, .binOp .lss 3 (.tmp 7) (.tmp 6) 3, none⟩])
      (.seq (.cond (.tmp 8)
        .skip
        (.exit 0))
       (.seq (.block 1 (.seq (.reg [⟨some 9, .move (.tmp 7), none⟩,
            ⟨some 10, .indexAddr 52 (.tmp 5) (.tmp 7), none⟩,
            ⟨some 11, .load 127 (.tmp 10), none⟩,
            ⟨some 4, .alloc 127, none⟩,
            ⟨some 3, .assign (.tmp 9), none⟩,
            ⟨none, .store 127 (.tmp 4) (.tmp 11), none⟩])
          (.seq (.regp [⟨some 12, .load 127 (.tmp 4), none⟩,
             ⟨some 13, .call ⟨.value (.func 104), ⟨[(.tmp 12)]⟩, ⟨[127]⟩⟩, none⟩,
             ⟨some 14, .unOp .not 4 (.tmp 13), none⟩,
             ⟨some 15, .move (.tmp 14), none⟩,
             ⟨some 16, .move (.tmp 3), some (15, false)⟩,
             ⟨some 17, .binOp .gtr 3 (.tmp 16) (.const (.int .i64 0)) 3, some (15, false)⟩,
             ⟨some 18, .move (.tmp 17), some (15, false)⟩,
             ⟨some 19, .move (.tmp 0), some (18, true)⟩,
             ⟨some 20, .move (.tmp 3), some (18, true)⟩,
             ⟨some 21, .binOp .sub 3 (.tmp 20) (.const (.int .i64 1)) 3, some (18, true)⟩,
             ⟨some 22, .indexAddr 52 (.tmp 19) (.tmp 21), some (18, true)⟩,
             ⟨some 23, .load 127 (.tmp 22), some (18, true)⟩,
             ⟨some 25, .load 127 (.tmp 4), some (18, true)⟩,
             ⟨some 24, .call ⟨.value (.func 105), ⟨[(.tmp 23)]⟩, ⟨[127]⟩⟩, some (18, true)⟩,
             ⟨some 26, .call ⟨.value (.func 105), ⟨[(.tmp 25)]⟩, ⟨[127]⟩⟩, some (18, true)⟩,
             ⟨some 27, .binOp .geq 3 (.tmp 24) (.tmp 26) 3, some (18, true)⟩,
             ⟨some 28, .pick (.tmp 18) (.tmp 27) (.const (.bool false)), some (15, false)⟩,
             ⟨some 29, .pick (.tmp 15) (.const (.bool true)) (.tmp 28), none⟩])
           (.cond (.tmp 29)
            (.seq (.reg [⟨some 2, .assign (.const (.bool false)), none⟩])
            .ret)
            .skip))))
        (.reg [⟨some 30, .binOp .add 3 (.tmp 7) (.const (.int .i64 1)) 3, none⟩,
          ⟨some 7, .move (.tmp 30), none⟩])))))))
  (.seq (.reg [⟨some 31, .move (.tmp 0), none⟩,
     ⟨some 32, .call ⟨.builtin .len, ⟨[(.tmp 31)]⟩, ⟨[52]⟩⟩, none⟩,
     ⟨some 33, .binOp .leq 3 (.tmp 32) (.const (.int .i64 27)) 3, none⟩,
     ⟨some 2, .assign (.tmp 33), none⟩])
   .ret)))
theorem F93 : IsFun Tryd.prog 93 h93 s93 [.tmp 2] 34 := ⟨_, Tryd.func93, by kernel_rfl, by kernel_rfl, by kernel_rfl, by kernel_rfl, by kernel_rfl⟩

/-- impl.IsTable -/
def h71 : Hints := {}
def s71 : SC :=
(.seq (.reg [⟨some 1, .box 60 (.tmp 0), none⟩,
   ⟨some 2, .assign (.const (.bool false)), none⟩])
 (.seq (.reg [⟨some 3, .fieldAddr 60 (.tmp 1) 0, none⟩,
    ⟨some 4, .load 52 (.tmp 3), none⟩,
    ⟨some 5, .call ⟨.value (.func 93), ⟨[(.tmp 4)]⟩, ⟨[52]⟩⟩, none⟩,
    ⟨some 6, .move (.tmp 5), none⟩,
    ⟨some 7, .fieldAddr 60 (.tmp 1) 1, some (6, true)⟩,
    ⟨some 8, .load 3 (.tmp 7), some (6, true)⟩,
    ⟨some 9, .call ⟨.value (.func 50), ⟨[(.tmp 8), (.const (.int .i64 0)), (.const (.int .i64 1000))]⟩, ⟨[3, 3, 3]⟩⟩, some (6, true)⟩,
    ⟨some 10, .pick (.tmp 6) (.tmp 9) (.const (.bool false)), none⟩,
    ⟨some 11, .move (.tmp 10), none⟩,
    ⟨some 12, .fieldAddr 60 (.tmp 1) 2, some (11, true)⟩,
    ⟨some 13, .load 3 (.tmp 12), some (11, true)⟩,
    ⟨some 14, .call ⟨.value (.func 50), ⟨[(.tmp 13), (.const (.int .i64 0)), (.const (.int .i64 1000))]⟩, ⟨[3, 3, 3]⟩⟩, some (11, true)⟩,
    ⟨some 15, .pick (.tmp 11) (.tmp 14) (.const (.bool false)), none⟩,
    ⟨some 2, .assign (.tmp 15), none⟩])
  .ret))
theorem F71 : IsFun Tryd.prog 71 h71 s71 [.tmp 2] 16 := ⟨_, Tryd.func71, by kernel_rfl, by kernel_rfl, by kernel_rfl, by kernel_rfl, by kernel_rfl⟩

/-- impl.IsValidConsole -/
def h35 : Hints := {}
def s35 : SC :=
(.seq (.reg [⟨some 1, .box 62 (.tmp 0), none⟩,
   ⟨some 2, .assign (.const (.bool false)), none⟩])
 (.seq (.reg [⟨some 3, .fieldAddr 62 (.tmp 1) 0, none⟩,
    ⟨some 4, .load 60 (.tmp 3), none⟩,
    ⟨some 5, .call ⟨.value (.func 71), ⟨[(.tmp 4)]⟩, ⟨[60]⟩⟩, none⟩,
    ⟨some 6, .move (.tmp 5), none⟩,
    ⟨some 7, .fieldAddr 62 (.tmp 1) 1, some (6, true)⟩,
    ⟨some 8, .load 33 (.tmp 7), some (6, true)⟩,
    ⟨some 9, .call ⟨.value (.func 19), ⟨[(.tmp 8)]⟩, ⟨[33]⟩⟩, some (6, true)⟩,
    ⟨some 10, .pick (.tmp 6) (.tmp 9) (.const (.bool false)), none⟩,
    ⟨some 2, .assign (.tmp 10), none⟩])
  .ret))
theorem F35 : IsFun Tryd.prog 35 h35 s35 [.tmp 2] 11 := ⟨_, Tryd.func35, by kernel_rfl, by kernel_rfl, by kernel_rfl, by kernel_rfl, by kernel_rfl⟩

/-- laws.eqIntA4 -/
def h106 : Hints := {}
def s106 : SC :=
(.seq (.reg [⟨some 2, .box 127 (.tmp 0), none⟩,
   ⟨some 3, .box 127 (.tmp 1), none⟩,
   ⟨some 4, .assign (.const (.bool false)), none⟩])
 (.seq (.seq (.reg [⟨some 5, .assign (.const (.int .i64 0)), none⟩])
   (.block 0 (.loop (.seq (.seq (.reg [⟨some 6, .move (.tmp 5), none⟩,
         ⟨some 7, .binOp .lss 3 (.tmp 6) (.const (.int .i64 4)) 3, none⟩])
       (.cond (.tmp 7)
        .skip
        (.exit 0)))
      (.seq (.block 1 (.seq (.reg [⟨some 10, .move (.tmp 5), none⟩,
           ⟨some 11, .indexAddr 127 (.tmp 2) (.tmp 10), none⟩,
           ⟨some 12, .load 3 (.tmp 11), none⟩,
           ⟨some 13, .move (.tmp 5), none⟩,
           ⟨some 14, .indexAddr 127 (.tmp 3) (.tmp 13), none⟩,
           ⟨some 15, .load 3 (.tmp 14), none⟩,
           ⟨some 16, .binOp .neq 3 (.tmp 12) (.tmp 15) 3, none⟩])
         (.cond (.tmp 16)
          (.seq (.reg [⟨some 4, .assign (.const (.bool false)), none⟩])
           .ret)
          .skip)))
       (.reg [⟨some 8, .move (.tmp 5), none⟩,
         ⟨some 9, .binOp .add 3 (.tmp 8) (.const (.int .i64 1)) 3, none⟩,
         ⟨some 5, .assign (.tmp 9), none⟩]))))))
  (.seq (.reg [⟨some 4, .assign (.const (.bool true)), none⟩])
   .ret)))
theorem F106 : IsFun Tryd.prog 106 h106 s106 [.tmp 4] 17 := ⟨_, Tryd.func106, by kernel_rfl, by kernel_rfl, by kernel_rfl, by kernel_rfl, by kernel_rfl⟩

/-- laws.eqIntA4S -/
def h94 : Hints := {}
def s94 : SC :=
(.seq (.reg [⟨some 4, .assign (.const (.bool false)), none⟩])
 (.seq (.seq (.reg [⟨some 6, .move (.tmp 0), none⟩,
     ⟨some 7, .call ⟨.builtin .len, ⟨[(.tmp 6)]⟩, ⟨[52]⟩⟩, none⟩,
     ⟨some 8, .move (.tmp 1), none⟩,
     ⟨some 9, .call ⟨.builtin .len, ⟨[(.tmp 8)]⟩, ⟨[52]⟩⟩, none⟩,
     ⟨some 10, .binOp .neq 3 (.tmp 7) (.tmp 9) 3, none⟩])
   (.cond (.tmp 10)
    (.seq (.reg [⟨some 4, .assign (.const (.bool false)), none⟩])
     .ret)
    .skip))
  (.seq (.seq (.reg [⟨some 5, .assign (.const (.int .i64 0)), none⟩])
    (.block 0 (.loop (.seq (.seq (.reg [⟨some 11, .move (.tmp 5), none⟩,
          ⟨some 12, .move (.tmp 0), none⟩,
          ⟨some 13, .call ⟨.builtin .len, ⟨[(.tmp 12)]⟩, ⟨[52]⟩⟩, none⟩,
          ⟨some 14, .binOp .lss 3 (.tmp 11) (.tmp 13) 3, none⟩])
        (.cond (.tmp 14)
         .skip
         (.exit 0)))
       (.seq (.block 1 (.seq (.reg [⟨some 17, .move (.tmp 0), none⟩,
            ⟨some 18, .move (.tmp 5), none⟩,
            ⟨some 19, .indexAddr 52 (.tmp 17) (.tmp 18), none⟩,
            ⟨some 20, .load 127 (.tmp 19), none⟩,
            ⟨some 21, .move (.tmp 1), none⟩,
            ⟨some 22, .move (.tmp 5), none⟩,
            ⟨some 23, .indexAddr 52 (.tmp 21) (.tmp 22), none⟩,
            ⟨some 24, .load 127 (.tmp 23), none⟩,
            ⟨some 25, .call ⟨.value (.func 106), ⟨[(.tmp 20), (.tmp 24)]⟩, ⟨[127, 127]⟩⟩, none⟩,
            ⟨some 26, .unOp .not 4 (.tmp 25), none⟩])
          (.cond (.tmp 26)
           (.seq (.reg [⟨some 4, .assign (.const (.bool false)), none⟩])
            .ret)
           .skip)))
        (.reg [⟨some 15, .move (.tmp 5), none⟩,
          ⟨some 16, .binOp .add 3 (.tmp 15) (.const (.int .i64 1)) 3, none⟩,
          ⟨some 5, .assign (.tmp 16), none⟩]))))))
   (.seq (.reg [⟨some 4, .assign (.const (.bool true)), none⟩])
    .ret))))
theorem F94 : IsFun Tryd.prog 94 h94 s94 [.tmp 4] 27 := ⟨_, Tryd.func94, by kernel_rfl, by kernel_rfl, by kernel_rfl, by kernel_rfl, by kernel_rfl⟩

/-- laws.eqTable -/
def h72 : Hints := {}
def s72 : SC :=
(.seq (.reg [⟨some 2, .box 60 (.tmp 0), none⟩,
   ⟨some 3, .box 60 (.tmp 1), none⟩,
   ⟨some 4, .assign (.const (.bool false)), none⟩])
 (.seq (.seq (.reg [⟨some 5, .fieldAddr 60 (.tmp 2) 0, none⟩,
     ⟨some 6, .load 52 (.tmp 5), none⟩,
     ⟨some 7, .fieldAddr 60 (.tmp 3) 0, none⟩,
     ⟨some 8, .load 52 (.tmp 7), none⟩,
     ⟨some 9, .call ⟨.value (.func 94), ⟨[(.tmp 6), (.tmp 8)]⟩, ⟨[52, 52]⟩⟩, none⟩,
     ⟨some 10, .unOp .not 4 (.tmp 9), none⟩])
   (.cond (.tmp 10)
    (.seq (.reg [⟨some 4, .assign (.const (.bool false)), none⟩])
     .ret)
    .skip))
  (.seq (.seq (.reg [⟨some 11, .fieldAddr 60 (.tmp 2) 1, none⟩,
      ⟨some 12, .load 3 (.tmp 11), none⟩,
      ⟨some 13, .fieldAddr 60 (.tmp 3) 1, none⟩,
      ⟨some 14, .load 3 (.tmp 13), none⟩,
      ⟨some 15, .binOp .neq 3 (.tmp 12) (.tmp 14) 3, none⟩])
    (.cond (.tmp 15)
     (.seq (.reg [⟨some 4, .assign (.const (.bool false)), none⟩])
      .ret)
     .skip))
   (.seq (.seq (.reg [⟨some 16, .fieldAddr 60 (.tmp 2) 2, none⟩,
       ⟨some 17, .load 3 (.tmp 16), none⟩,
       ⟨some 18, .fieldAddr 60 (.tmp 3) 2, none⟩,
       ⟨some 19, .load 3 (.tmp 18), none⟩,
       ⟨some 20, .binOp .neq 3 (.tmp 17) (.tmp 19) 3, none⟩])
     (.cond (.tmp 20)
      (.seq (.reg [⟨some 4, .assign (.const (.bool false)), none⟩])
       .ret)
      .skip))
    (.seq (.reg [⟨some 4, .assign (.const (.bool true)), none⟩])
     .ret)))))
theorem F72 : IsFun Tryd.prog 72 h72 s72 [.tmp 4] 21 := ⟨_, Tryd.func72, by kernel_rfl, by kernel_rfl, by kernel_rfl, by kernel_rfl, by kernel_rfl⟩

/-- laws.eqLog -/
def h73 : Hints := {}
def s73 : SC :=
(.seq (.reg [⟨some 2, .box 33 (.tmp 0), none⟩,
   ⟨some 3, .box 33 (.tmp 1), none⟩,
   ⟨some 4, .assign (.const (.bool false)), none⟩])
 (.seq (.seq (.reg [⟨some 5, .fieldAddr 33 (.tmp 2) 0, none⟩,
     ⟨some 6, .load 9 (.tmp 5), none⟩,
     ⟨some 7, .fieldAddr 33 (.tmp 3) 0, none⟩,
     ⟨some 8, .load 9 (.tmp 7), none⟩,
     ⟨some 9, .binOp .neq 9 (.tmp 6) (.tmp 8) 9, none⟩])
   (.cond (.tmp 9)
    (.seq (.reg [⟨some 4, .assign (.const (.bool false)), none⟩])
     .ret)
    .skip))
  (.seq (.seq (.reg [⟨some 10, .fieldAddr 33 (.tmp 2) 1, none⟩,
      ⟨some 11, .load 9 (.tmp 10), none⟩,
      ⟨some 12, .fieldAddr 33 (.tmp 3) 1, none⟩,
      ⟨some 13, .load 9 (.tmp 12), none⟩,
      ⟨some 14, .binOp .neq 9 (.tmp 11) (.tmp 13) 9, none⟩])
    (.cond (.tmp 14)
     (.seq (.reg [⟨some 4, .assign (.const (.bool false)), none⟩])
      .ret)
     .skip))
   (.seq (.seq (.reg [⟨some 15, .fieldAddr 33 (.tmp 2) 2, none⟩,
       ⟨some 16, .load 3 (.tmp 15), none⟩,
       ⟨some 17, .fieldAddr 33 (.tmp 3) 2, none⟩,
       ⟨some 18, .load 3 (.tmp 17), none⟩,
       ⟨some 19, .binOp .neq 3 (.tmp 16) (.tmp 18) 3, none⟩])
     (.cond (.tmp 19)
      (.seq (.reg [⟨some 4, .assign (.const (.bool false)), none⟩])
       .ret)
      .skip))
    (.seq (.reg [⟨some 4, .assign (.const (.bool true)), none⟩])
     .ret)))))
theorem F73 : IsFun Tryd.prog 73 h73 s73 [.tmp 4] 20 := ⟨_, Tryd.func73, by kernel_rfl, by kernel_rfl, by kernel_rfl, by kernel_rfl, by kernel_rfl⟩

/-- laws.eqConsole -/
def h36 : Hints := {}
def s36 : SC :=
(.seq (.reg [⟨some 2, .box 62 (.tmp 0), none⟩,
   ⟨some 3, .box 62 (.tmp 1), none⟩,
   ⟨some 4, .assign (.const (.bool false)), none⟩])
 (.seq (.seq (.reg [⟨some 5, .fieldAddr 62 (.tmp 2) 0, none⟩,
     ⟨some 6, .load 60 (.tmp 5), none⟩,
     ⟨some 7, .fieldAddr 62 (.tmp 3) 0, none⟩,
     ⟨some 8, .load 60 (.tmp 7), none⟩,
     ⟨some 9, .call ⟨.value (.func 72), ⟨[(.tmp 6), (.tmp 8)]⟩, ⟨[60, 60]⟩⟩, none⟩,
     ⟨some 10, .unOp .not 4 (.tmp 9), none⟩])
   (.cond (.tmp 10)
    (.seq (.reg [⟨some 4, .assign (.const (.bool false)), none⟩])
     .ret)
    .skip))
  (.seq (.seq (.reg [⟨some 11, .fieldAddr 62 (.tmp 2) 1, none⟩,
      ⟨some 12, .load 33 (.tmp 11), none⟩,
      ⟨some 13, .fieldAddr 62 (.tmp 3) 1, none⟩,
      ⟨some 14, .load 33 (.tmp 13), none⟩,
      ⟨some 15, .call ⟨.value (.func 73), ⟨[(.tmp 12), (.tmp 14)]⟩, ⟨[33, 33]⟩⟩, none⟩,
      ⟨some 16, .unOp .not 4 (.tmp 15), none⟩])
    (.cond (.tmp 16)
     (.seq (.reg [⟨some 4, .assign (.const (.bool false)), none⟩])
      .ret)
     .skip))
   (.seq (.reg [⟨some 4, .assign (.const (.bool true)), none⟩])
    .ret))))
theorem F36 : IsFun Tryd.prog 36 h36 s36 [.tmp 4] 17 := ⟨_, Tryd.func36, by kernel_rfl, by kernel_rfl, by kernel_rfl, by kernel_rfl, by kernel_rfl⟩

/-- laws.FnExactIsValidConsole -/
def h5 : Hints := {}
def s5 : SC :=
(.seq (.reg [⟨some 1, .box 57 (.tmp 0), none⟩,
   ⟨some 2, .assign (.const (.bool false)), none⟩])
 (.seq (.reg [⟨some 3, .assign (.const (.int .i64 1048576)), none⟩])
  (.seq (.reg [⟨some 7, .load 57 (.tmp 1), none⟩,
     ⟨some 8, .move (.tmp 3), none⟩,
     ⟨some 9, .call ⟨.value (.func 32), ⟨[(.tmp 7), (.tmp 8)]⟩, ⟨[57, 3]⟩⟩, none⟩,
     ⟨some 3, .assign (.tmp 9), none⟩])
   (.seq (.seq (.reg [⟨some 10, .move (.tmp 3), none⟩,
       ⟨some 11, .binOp .lss 3 (.tmp 10) (.const (.int .i64 0)) 3, none⟩])
     (.cond (.tmp 11)
      (.seq (.reg [⟨some 2, .assign (.const (.bool true)), none⟩])
       .ret)
      .skip))
    (.seq (.reg [⟨some 12, .load 57 (.tmp 1), none⟩,
       ⟨some 13, .call ⟨.value (.func 34), ⟨[(.tmp 12)]⟩, ⟨[57]⟩⟩, none⟩,
       ⟨some 14, .call ⟨.value (.func 33), ⟨[(.tmp 13)]⟩, ⟨[62]⟩⟩, none⟩,
       ⟨some 4, .assign (.tmp 14), none⟩])
     (.seq (.reg [⟨some 15, .load 57 (.tmp 1), none⟩,
        ⟨some 16, .call ⟨.value (.func 34), ⟨[(.tmp 15)]⟩, ⟨[57]⟩⟩, none⟩,
        ⟨some 5, .alloc 62, none⟩,
        ⟨none, .store 62 (.tmp 5) (.tmp 16), none⟩])
      (.seq (.reg [⟨some 17, .load 62 (.tmp 5), none⟩,
         ⟨some 18, .call ⟨.value (.func 35), ⟨[(.tmp 17)]⟩, ⟨[62]⟩⟩, none⟩,
         ⟨some 6, .assign (.tmp 18), none⟩])
       (.seq (.seq (.reg [⟨some 19, .move (.tmp 6), none⟩,
           ⟨some 20, .move (.tmp 4), none⟩,
           ⟨some 21, .binOp .neq 4 (.tmp 19) (.tmp 20) 4, none⟩])
         (.cond (.tmp 21)
          (.seq (.reg [⟨some 2, .assign (.const (.bool false)), none⟩])
           .ret)
          .skip))
        (.seq (.seq (.regp [⟨some 22, .load 62 (.tmp 5), none⟩,
            ⟨some 23, .load 57 (.tmp 1), none⟩,
            ⟨some 24, .call ⟨.value (.func 34), ⟨[(.tmp 23)]⟩, ⟨[57]⟩⟩, none⟩,
            ⟨some 25, .call ⟨.value (.func 36), ⟨[(.tmp 22), (.tmp 24)]⟩, ⟨[62, 62]⟩⟩, none⟩,
            ⟨some 26, .unOp .not 4 (.tmp 25), none⟩])
          (.cond (.tmp 26)
           (.seq (.reg [⟨some 2, .assign (.const (.bool false)), none⟩])
            .ret)
           .skip))
         (.seq (.reg [⟨some 2, .assign (.const (.bool true)), none⟩])
          .ret))))))))))
theorem F5 : IsFun Tryd.prog 5 h5 s5 [.tmp 2] 27 := ⟨_, Tryd.func5, by kernel_rfl, by kernel_rfl, by kernel_rfl, by kernel_rfl, by kernel_rfl⟩

/-- spec.DrawFormatInt -/
def h37 : Hints := { trs := [], cps := [], refs := [], tree := true }
def s37 : SC :=
(.seq (.reg [⟨some 2, .assign (.const (.int .i64 0)), none⟩])
 (.seq (.reg [⟨some 4, .move (.tmp 0), none⟩,
    ⟨some 5, .build 75 ⟨[(0, (.tmp 4))]⟩, none⟩,
    ⟨some 6, .box 75 (.tmp 5), none⟩,
    ⟨some 3, .assign (.tmp 6), none⟩])
  (.seq (.reg [⟨some 7, .move (.tmp 3), none⟩,
     ⟨some 8, .move (.tmp 3), none⟩,
     ⟨some 9, .call ⟨.value (.func 57), ⟨[(.tmp 8), (.const (.int .i64 1000))]⟩, ⟨[72, 3]⟩⟩, none⟩,
     ⟨some 10, .binOp .sub 3 (.tmp 9) (.const (.int .i64 500)) 3, none⟩,
     ⟨some 11, .buildSlice 78 9 ⟨[(0, (.const (.int .i64 0))), (1, (.const (.int .i64 1))), (2, (.const (.int .i64 (-1)))), (3, (.const (.int .i64 10))), (4, (.const (.int .i64 999999))), (5, (.const (.int .i64 (-999999)))), (6, (.const (.int .i64 1000000))), (7, (.const (.int .i64 (-1000000)))), (8, (.tmp 10))]⟩, none⟩,
     ⟨some 12, .call ⟨.value (.func 49), ⟨[(.tmp 7), (.tmp 11)]⟩, ⟨[72, 78]⟩⟩, none⟩,
     ⟨some 2, .assign (.tmp 12), none⟩])
   .ret)))
theorem F37 : IsFun Tryd.prog 37 h37 s37 [.tmp 2] 13 := ⟨_, Tryd.func37, by kernel_rfl, by kernel_rfl, by kernel_rfl, by kernel_rfl, by kernel_rfl⟩

/-- impl.FormatInt -/
def h38 : Hints := {}
def s38 : SC :=
(.seq (.reg [⟨some 2, .assign (.const (.string ⟨⟨[]⟩⟩)), none⟩,
   ⟨some 3, .assign (.const (.bool false)), none⟩])
 (.seq (.seq (.reg [⟨some 4, .move (.tmp 0), none⟩,
     ⟨some 5, .call ⟨.value (.func 50), ⟨[(.tmp 4), (.const (.int .i64 (-999999))), (.const (.int .i64 999999))]⟩, ⟨[3, 3, 3]⟩⟩, none⟩,
     ⟨some 6, .unOp .not 4 (.tmp 5), none⟩])
   (.cond (.tmp 6)
    (.seq (.reg [⟨some 2, .assign (.const (.string ⟨⟨[]⟩⟩)), none⟩,
       ⟨some 3, .assign (.const (.bool false)), none⟩])
     .ret)
    .skip))
  (.seq (.reg [⟨some 7, .move (.tmp 0), none⟩,
     ⟨some 8, .call ⟨.value (.func 51), ⟨[(.tmp 7)]⟩, ⟨[3]⟩⟩, none⟩,
     ⟨some 2, .assign (.tmp 8), none⟩,
     ⟨some 3, .assign (.const (.bool true)), none⟩])
   .ret)))
theorem F38 : IsFun Tryd.prog 38 h38 s38 [.tmp 2, .tmp 3] 9 := ⟨_, Tryd.func38, by kernel_rfl, by kernel_rfl, by kernel_rfl, by kernel_rfl, by kernel_rfl⟩

/-- spec.FormatInt -/
def h39 : Hints := {}
def s39 : SC :=
(.seq (.reg [⟨some 2, .assign (.const (.string ⟨⟨[]⟩⟩)), none⟩,
   ⟨some 3, .assign (.const (.bool false)), none⟩])
 (.seq (.seq (.reg [⟨some 4, .move (.tmp 0), none⟩,
     ⟨some 5, .call ⟨.value (.func 52), ⟨[(.tmp 4), (.const (.int .i64 (-999999))), (.const (.int .i64 999999))]⟩, ⟨[3, 3, 3]⟩⟩, none⟩,
     ⟨some 6, .unOp .not 4 (.tmp 5), none⟩])
   (.cond (.tmp 6)
    (.seq (.reg [⟨some 2, .assign (.const (.string ⟨⟨[]⟩⟩)), none⟩,
       ⟨some 3, .assign (.const (.bool false)), none⟩])
     .ret)
    .skip))
  (.seq (.reg [⟨some 7, .move (.tmp 0), none⟩,
     ⟨some 8, .call ⟨.value (.func 74), ⟨[(.tmp 7)]⟩, ⟨[3]⟩⟩, none⟩,
     ⟨some 2, .assign (.tmp 8), none⟩,
     ⟨some 3, .assign (.const (.bool true)), none⟩])
   .ret)))
theorem F39 : IsFun Tryd.prog 39 h39 s39 [.tmp 2, .tmp 3] 9 := ⟨_, Tryd.func39, by kernel_rfl, by kernel_rfl, by kernel_rfl, by kernel_rfl, by kernel_rfl⟩

/-- spec.DrawParseInt -/
def h40 : Hints := { trs := [], cps := [], refs := [], tree := true }
def s40 : SC :=
(.seq (.reg [⟨some 2, .assign (.const (.string ⟨⟨[]⟩⟩)), none⟩])
 (.seq (.reg [⟨some 4, .move (.tmp 0), none⟩,
    ⟨some 5, .build 75 ⟨[(0, (.tmp 4))]⟩, none⟩,
    ⟨some 6, .box 75 (.tmp 5), none⟩,
    ⟨some 3, .assign (.tmp 6), none⟩])
  (.seq (.seq (.reg [⟨some 7, .move (.tmp 3), none⟩,
      ⟨some 8, .call ⟨.value (.func 56), ⟨[(.tmp 7), (.const (.int .i64 2))]⟩, ⟨[72, 3]⟩⟩, none⟩])
    (.cond (.tmp 8)
     (.seq (.reg [⟨some 9, .move (.tmp 3), none⟩,
        ⟨some 10, .buildSlice 101 11 ⟨[(0, (.const (.string ⟨⟨[]⟩⟩))), (1, (.const (.string ⟨⟨[45]⟩⟩))), (2, (.const (.string ⟨⟨[45, 48]⟩⟩))), (3, (.const (.string ⟨⟨[48, 48]⟩⟩))), (4, (.const (.string ⟨⟨[48, 49]⟩⟩))), (5, (.const (.string ⟨⟨[45, 45, 49]⟩⟩))), (6, (.const (.string ⟨⟨[49, 120]⟩⟩))), (7, (.const (.string ⟨⟨[57, 57, 57, 57, 57, 57]⟩⟩))), (8, (.const (.string ⟨⟨[49, 48, 48, 48, 48, 48, 48]⟩⟩))), (9, (.const (.string ⟨⟨[45, 57, 57, 57, 57, 57, 57]⟩⟩))), (10, (.const (.string ⟨⟨[49, 56, 52, 52, 54, 55, 52, 52, 48, 55, 51, 55, 48, 57, 53, 53, 49, 54, 49, 55]⟩⟩)))]⟩, none⟩,
        ⟨some 11, .call ⟨.value (.func 75), ⟨[(.tmp 9), (.tmp 10)]⟩, ⟨[72, 101]⟩⟩, none⟩,
        ⟨some 2, .assign (.tmp 11), none⟩])
      .ret)
     .skip))
   (.seq (.reg [⟨some 12, .move (.tmp 3), none⟩,
      ⟨some 13, .call ⟨.value (.func 57), ⟨[(.tmp 12), (.const (.int .i64 2000))]⟩, ⟨[72, 3]⟩⟩, none⟩,
      ⟨some 14, .binOp .sub 3 (.tmp 13) (.const (.int .i64 1000)) 3, none⟩,
      ⟨some 15, .call ⟨.value (.func 74), ⟨[(.tmp 14)]⟩, ⟨[3]⟩⟩, none⟩,
      ⟨some 2, .assign (.tmp 15), none⟩])
    .ret))))
theorem F40 : IsFun Tryd.prog 40 h40 s40 [.tmp 2] 16 := ⟨_, Tryd.func40, by kernel_rfl, by kernel_rfl, by kernel_rfl, by kernel_rfl, by kernel_rfl⟩

/-- impl.ParseInt -/
def h41 : Hints := {}
def s41 : SC :=
(.seq (.reg [⟨some 2, .assign (.const (.int .i64 0)), none⟩,
   ⟨some 3, .assign (.const (.bool false)), none⟩])
 (.seq (.reg [⟨some 7, .move (.tmp 0), none⟩,
    ⟨some 8, .call ⟨.value (.func 76), ⟨[(.tmp 7)]⟩, ⟨[9]⟩⟩, none⟩,
    ⟨some 6, .move (.tmp 8), none⟩,
    ⟨some 9, .extract (.tmp 6) 0, none⟩,
    ⟨some 10, .extract (.tmp 6) 1, none⟩,
    ⟨some 4, .assign (.tmp 9), none⟩,
    ⟨some 5, .assign (.tmp 10), none⟩])
  (.seq (.seq (.reg [⟨some 11, .move (.tmp 5), none⟩,
      ⟨some 12, .binOp .neq 103 (.tmp 11) (.const .nilIface) 103, none⟩,
      ⟨some 13, .move (.tmp 12), none⟩,
      ⟨some 14, .move (.tmp 4), some (13, false)⟩,
      ⟨some 15, .call ⟨.value (.func 50), ⟨[(.tmp 14), (.const (.int .i64 (-999999))), (.const (.int .i64 999999))]⟩, ⟨[3, 3, 3]⟩⟩, some (13, false)⟩,
      ⟨some 16, .unOp .not 4 (.tmp 15), some (13, false)⟩,
      ⟨some 17, .pick (.tmp 13) (.const (.bool true)) (.tmp 16), none⟩,
      ⟨some 18, .move (.tmp 17), none⟩,
      ⟨some 19, .move (.tmp 4), some (18, false)⟩,
      ⟨some 20, .call ⟨.value (.func 51), ⟨[(.tmp 19)]⟩, ⟨[3]⟩⟩, some (18, false)⟩,
      ⟨some 21, .move (.tmp 0), some (18, false)⟩,
      ⟨some 22, .binOp .neq 9 (.tmp 20) (.tmp 21) 9, some (18, false)⟩,
      ⟨some 23, .pick (.tmp 18) (.const (.bool true)) (.tmp 22), none⟩])
    (.cond (.tmp 23)
     (.seq (.reg [⟨some 2, .assign (.const (.int .i64 0)), none⟩,
        ⟨some 3, .assign (.const (.bool false)), none⟩])
      .ret)
     .skip))
   (.seq (.reg [⟨some 24, .move (.tmp 4), none⟩,
      ⟨some 2, .assign (.tmp 24), none⟩,
      ⟨some 3, .assign (.const (.bool true)), none⟩])
    .ret))))
theorem F41 : IsFun Tryd.prog 41 h41 s41 [.tmp 2, .tmp 3] 25 := ⟨_, Tryd.func41, by kernel_rfl, by kernel_rfl, by kernel_rfl, by kernel_rfl, by kernel_rfl⟩

end Go.Proofs.YtgnebanjejmckaaDoor
