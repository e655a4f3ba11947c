/- The codes of the program's functions, as data: each is what the translation holds. -/
import Derived.Test.YtgnebanjejmckaaDoorProg
import Derived.Test.YtgnebanjejmckaaDoorDq
import Derived.KernelRfl
set_option maxRecDepth 100000
namespace Go.Proofs.YtgnebanjejmckaaDoor
open Go Dl

/-- (*spec.l1Cur).spoilt -/
def h65 : Hints := { trs := [], cps := [6], refs := [], tree := true }
def s65 : SC :=
(.seq (.reg [⟨some 6, .assign (.const (.string ⟨⟨[]⟩⟩)), none⟩])
 (.seq (.seq (.reg [⟨some 9, .move (.tmp 1), none⟩,
     ⟨some 10, .binOp .eql 9 (.tmp 9) (.const (.string ⟨⟨[]⟩⟩)) 9, none⟩])
   (.cond (.tmp 10)
    (.seq (.reg [⟨some 11, .move (.tmp 2), none⟩,
       ⟨some 12, .slice 9 (.tmp 11) none (some (.const (.int .i64 1))) none, none⟩,
       ⟨some 6, .assign (.tmp 12), none⟩])
     .ret)
    .skip))
  (.seq (.reg [⟨some 13, .move (.tmp 0), none⟩,
     ⟨some 14, .move (.tmp 1), none⟩,
     ⟨some 15, .call ⟨.builtin .len, ⟨[(.tmp 14)]⟩, ⟨[9]⟩⟩, none⟩,
     ⟨some 16, .call ⟨.value (.func 57), ⟨[(.tmp 13), (.tmp 15)]⟩, ⟨[72, 3]⟩⟩, none⟩,
     ⟨some 7, .assign (.tmp 16), none⟩])
   (.seq (.reg [⟨some 17, .move (.tmp 2), none⟩,
      ⟨some 18, .move (.tmp 0), none⟩,
      ⟨some 19, .move (.tmp 2), none⟩,
      ⟨some 20, .call ⟨.builtin .len, ⟨[(.tmp 19)]⟩, ⟨[9]⟩⟩, none⟩,
      ⟨some 21, .call ⟨.value (.func 57), ⟨[(.tmp 18), (.tmp 20)]⟩, ⟨[72, 3]⟩⟩, none⟩,
      ⟨some 22, .slice 9 (.tmp 17) (some (.tmp 21)) none none, none⟩,
      ⟨some 23, .slice 9 (.tmp 22) none (some (.const (.int .i64 1))) none, none⟩,
      ⟨some 8, .assign (.tmp 23), none⟩])
    (.seq (.seq (.reg [⟨some 24, .move (.tmp 0), none⟩,
        ⟨some 25, .call ⟨.value (.func 57), ⟨[(.tmp 24), (.const (.int .i64 3))]⟩, ⟨[72, 3]⟩⟩, none⟩])
      (.block 0 (.seq (.reg [⟨some 27, .binOp .eql 3 (.tmp 25) (.const (.int .i64 0)) 3, none⟩,
          ⟨some 26, .assign (.tmp 27), none⟩])
        (.cond (.tmp 26)
         (.seq (.reg [⟨some 28, .move (.tmp 1), none⟩,
            ⟨some 29, .move (.tmp 7), none⟩,
            ⟨some 30, .slice 9 (.tmp 28) none (some (.tmp 29)) none, none⟩,
            ⟨some 31, .move (.tmp 8), none⟩,
            ⟨some 32, .binOp .add 9 (.tmp 30) (.tmp 31) 9, none⟩,
            ⟨some 33, .move (.tmp 1), none⟩,
            ⟨some 34, .move (.tmp 7), none⟩,
            ⟨some 35, .slice 9 (.tmp 33) (some (.tmp 34)) none none, none⟩,
            ⟨some 36, .binOp .add 9 (.tmp 32) (.tmp 35) 9, none⟩,
            ⟨some 6, .assign (.tmp 36), none⟩])
          .ret)
         (.seq (.reg [⟨some 38, .binOp .eql 3 (.tmp 25) (.const (.int .i64 1)) 3, none⟩,
            ⟨some 37, .assign (.tmp 38), none⟩])
          (.cond (.tmp 37)
           (.seq (.reg [⟨some 39, .move (.tmp 1), none⟩,
             ⟨some 40, .move (.tmp 7), none⟩,
             ⟨some 41, .slice 9 (.tmp 39) none (some (.tmp 40)) none, none⟩,
             ⟨some 42, .move (.tmp 8), none⟩,
             ⟨some 43, .binOp .add 9 (.tmp 41) (.tmp 42) 9, none⟩,
             ⟨some 44, .move (.tmp 1), none⟩,
             ⟨some 45, .move (.tmp 7), none⟩,
             ⟨some 46, .binOp .add 3 (.tmp 45) (.const (.int .i64 1)) 3, none⟩,
             ⟨some 47, .slice 9 (.tmp 44) (some (.tmp 46)) none none, none⟩,
             ⟨some 48, .binOp .add 9 (.tmp 43) (.tmp 47) 9, none⟩,
             ⟨some 6, .assign (.tmp 48), none⟩])
            .ret)
           .skip))))))
     (.seq (.reg [⟨some 49, .move (.tmp 1), none⟩,
        ⟨some 50, .move (.tmp 7), none⟩,
        ⟨some 51, .slice 9 (.tmp 49) none (some (.tmp 50)) none, none⟩,
        ⟨some 52, .move (.tmp 1), none⟩,
        ⟨some 53, .move (.tmp 7), none⟩,
        ⟨some 54, .binOp .add 3 (.tmp 53) (.const (.int .i64 1)) 3, none⟩,
        ⟨some 55, .slice 9 (.tmp 52) (some (.tmp 54)) none none, none⟩,
        ⟨some 56, .binOp .add 9 (.tmp 51) (.tmp 55) 9, none⟩,
        ⟨some 6, .assign (.tmp 56), none⟩])
      .ret))))))
theorem F65 : IsFun Tryd.prog 65 h65 s65 [.tmp 6] 57 := ⟨_, Tryd.func65, by kernel_rfl, by kernel_rfl, by kernel_rfl, by kernel_rfl, by kernel_rfl⟩

/-- (*spec.l1Cur).anyLog -/
def h55 : Hints := { trs := [], cps := [], refs := [], tree := true }
def s55 : SC :=
(.seq (.reg [⟨some 2, .alloc 33, none⟩])
 (.seq (.reg [⟨some 4, .move (.tmp 0), none⟩,
    ⟨some 5, .call ⟨.value (.func 64), ⟨[(.tmp 4)]⟩, ⟨[72]⟩⟩, none⟩,
    ⟨some 3, .alloc 33, none⟩,
    ⟨none, .store 33 (.tmp 3) (.tmp 5), none⟩])
  (.seq (.seq (.reg [⟨some 6, .move (.tmp 0), none⟩,
      ⟨some 7, .call ⟨.value (.func 57), ⟨[(.tmp 6), (.const (.int .i64 24))]⟩, ⟨[72, 3]⟩⟩, none⟩])
    (.block 0 (.seq (.reg [⟨some 9, .binOp .eql 3 (.tmp 7) (.const (.int .i64 0)) 3, none⟩,
        ⟨some 8, .assign (.tmp 9), none⟩])
      (.cond (.tmp 8)
       (.reg [⟨some 10, .fieldAddr 33 (.tmp 3) 2, none⟩,
         ⟨some 11, .load 3 (.tmp 10), none⟩,
         ⟨some 12, .binOp .add 3 (.tmp 11) (.const (.int .i64 1)) 3, none⟩,
         ⟨some 13, .fieldAddr 33 (.tmp 3) 2, none⟩,
         ⟨none, .store 3 (.tmp 13) (.tmp 12), none⟩])
       (.seq (.reg [⟨some 15, .binOp .eql 3 (.tmp 7) (.const (.int .i64 1)) 3, none⟩,
          ⟨some 14, .assign (.tmp 15), none⟩])
        (.cond (.tmp 14)
         (.reg [⟨some 16, .move (.tmp 0), none⟩,
           ⟨some 17, .fieldAddr 33 (.tmp 3) 1, none⟩,
           ⟨some 18, .load 9 (.tmp 17), none⟩,
           ⟨some 19, .call ⟨.value (.func 65), ⟨[(.tmp 16), (.tmp 18), (.const (.string ⟨⟨[35, 64, 10, 48, 49]⟩⟩))]⟩, ⟨[72, 9, 9]⟩⟩, none⟩,
           ⟨some 20, .fieldAddr 33 (.tmp 3) 1, none⟩,
           ⟨none, .store 9 (.tmp 20) (.tmp 19), none⟩])
         (.seq (.reg [⟨some 22, .binOp .eql 3 (.tmp 7) (.const (.int .i64 2)) 3, none⟩,
            ⟨some 21, .assign (.tmp 22), none⟩])
          (.cond (.tmp 21)
           (.reg [⟨some 23, .fieldAddr 33 (.tmp 3) 0, none⟩,
             ⟨some 24, .load 9 (.tmp 23), none⟩,
             ⟨some 25, .fieldAddr 33 (.tmp 3) 1, none⟩,
             ⟨some 26, .load 9 (.tmp 25), none⟩,
             ⟨some 27, .binOp .add 9 (.tmp 24) (.tmp 26) 9, none⟩,
             ⟨some 28, .fieldAddr 33 (.tmp 3) 0, none⟩,
             ⟨none, .store 9 (.tmp 28) (.tmp 27), none⟩])
           .skip))))))))
   (.seq (.reg [⟨some 29, .load 33 (.tmp 3), none⟩,
      ⟨none, .store 33 (.tmp 2) (.tmp 29), none⟩])
    .ret))))
theorem F55 : IsFun Tryd.prog 55 h55 s55 [.cell 2 33] 30 := ⟨_, Tryd.func55, by kernel_rfl, by kernel_rfl, by kernel_rfl, by kernel_rfl, by kernel_rfl⟩

/-- spec.DrawIsValidLog -/
def h13 : Hints := { trs := [], cps := [], refs := [], tree := true }
def s13 : SC :=
(.seq (.reg [⟨some 2, .alloc 33, none⟩])
 (.seq (.reg [⟨some 4, .move (.tmp 0), none⟩,
    ⟨some 5, .build 75 ⟨[(0, (.tmp 4))]⟩, none⟩,
    ⟨some 6, .box 75 (.tmp 5), none⟩,
    ⟨some 3, .assign (.tmp 6), none⟩])
  (.seq (.reg [⟨some 7, .move (.tmp 3), none⟩,
     ⟨some 8, .call ⟨.value (.func 55), ⟨[(.tmp 7)]⟩, ⟨[72]⟩⟩, none⟩,
     ⟨none, .store 33 (.tmp 2) (.tmp 8), none⟩])
   .ret)))
theorem F13 : IsFun Tryd.prog 13 h13 s13 [.cell 2 33] 9 := ⟨_, Tryd.func13, by kernel_rfl, by kernel_rfl, by kernel_rfl, by kernel_rfl, by kernel_rfl⟩

/-- spec.DrawAppendRecord -/
def h14 : Hints := { trs := [], cps := [], refs := [], tree := true }
def s14 : SC :=
(.seq (.reg [⟨some 2, .alloc 33, none⟩,
   ⟨some 3, .alloc 25, none⟩])
 (.seq (.reg [⟨some 7, .move (.tmp 0), none⟩,
    ⟨some 8, .build 75 ⟨[(0, (.tmp 7))]⟩, none⟩,
    ⟨some 9, .box 75 (.tmp 8), none⟩,
    ⟨some 4, .assign (.tmp 9), none⟩])
  (.seq (.reg [⟨some 10, .move (.tmp 4), none⟩,
     ⟨some 11, .call ⟨.value (.func 55), ⟨[(.tmp 10)]⟩, ⟨[72]⟩⟩, none⟩,
     ⟨some 5, .alloc 33, none⟩,
     ⟨none, .store 33 (.tmp 5) (.tmp 11), none⟩])
   (.seq (.seq (.reg [⟨some 12, .move (.tmp 4), none⟩,
       ⟨some 13, .call ⟨.value (.func 56), ⟨[(.tmp 12), (.const (.int .i64 40))]⟩, ⟨[72, 3]⟩⟩, none⟩])
     (.cond (.tmp 13)
      (.seq (.reg [⟨some 14, .build 33 ⟨[]⟩, none⟩,
         ⟨none, .store 33 (.tmp 5) (.tmp 14), none⟩])
       (.seq (.reg [⟨some 15, .move (.tmp 4), none⟩,
          ⟨some 16, .call ⟨.value (.func 57), ⟨[(.tmp 15), (.const (.int .i64 2))]⟩, ⟨[72, 3]⟩⟩, none⟩,
          ⟨some 17, .binOp .add 3 (.const (.int .i64 59)) (.tmp 16) 3, none⟩,
          ⟨some 6, .assign (.tmp 17), none⟩])
        (.block 0 (.loop (.seq (.seq (.reg [⟨some 18, .move (.tmp 6), none⟩,
             ⟨some 19, .binOp .gtr 3 (.tmp 18) (.const (.int .i64 0)) 3, none⟩])
            (.cond (.tmp 19)
            .skip
            (.exit 0)))
           (.seq (.block 1 (.reg [⟨some 23, .load 33 (.tmp 5), none⟩,
             ⟨some 24, .build 25 ⟨[(0, (.const (.string ⟨⟨[120]⟩⟩)))]⟩, none⟩,
             ⟨some 25, .call ⟨.value (.func 16), ⟨[(.tmp 23), (.tmp 24)]⟩, ⟨[33, 25]⟩⟩, none⟩,
             ⟨some 22, .move (.tmp 25), none⟩,
             ⟨some 26, .extract (.tmp 22) 0, none⟩,
             ⟨some 27, .extract (.tmp 22) 1, none⟩,
             ⟨none, .store 33 (.tmp 5) (.tmp 26), none⟩]))
            (.reg [⟨some 20, .move (.tmp 6), none⟩,
             ⟨some 21, .binOp .sub 3 (.tmp 20) (.const (.int .i64 1)) 3, none⟩,
             ⟨some 6, .assign (.tmp 21), none⟩])))))))
      .skip))
    (.seq (.regt (.op ⟨some 29, .move (.tmp 4), none⟩
      (.br (.op ⟨some 28, .load 33 (.tmp 5), none⟩
        (.op ⟨some 30, .call ⟨.value (.func 48), ⟨[(.tmp 29)]⟩, ⟨[72]⟩⟩, none⟩
         (.op ⟨none, .store 33 (.tmp 2) (.tmp 28), none⟩
          (.op ⟨none, .store 25 (.tmp 3) (.tmp 30), none⟩
           .done))))
       (.op ⟨some 30, .call ⟨.value (.func 48), ⟨[(.tmp 29)]⟩, ⟨[72]⟩⟩, none⟩
        (.op ⟨some 28, .load 33 (.tmp 5), none⟩
         (.op ⟨none, .store 33 (.tmp 2) (.tmp 28), none⟩
          (.op ⟨none, .store 25 (.tmp 3) (.tmp 30), none⟩
           .done)))))))
     .ret)))))
theorem F14 : IsFun Tryd.prog 14 h14 s14 [.cell 2 33, .cell 3 25] 31 := ⟨_, Tryd.func14, by kernel_rfl, by kernel_rfl, by kernel_rfl, by kernel_rfl, by kernel_rfl⟩

/-- impl.records -/
def h61 : Hints := { trs := [75, 79, 83, 84], cps := [], refs := [] }
def s61 : SC :=
(.seq (.reg [⟨some 2, .assign (.const (.slice none 0 0)), none⟩,
   ⟨some 3, .assign (.const (.slice none 0 0)), none⟩])
 (.seq (.reg [⟨some 19, .buildSlice 43 0 ⟨[]⟩, none⟩,
    ⟨some 20, .buildSlice 78 1 ⟨[(0, (.const (.int .i64 0)))]⟩, none⟩,
    ⟨some 4, .assign (.tmp 19), none⟩,
    ⟨some 5, .assign (.tmp 20), none⟩,
    ⟨some 6, .assign (.const (.int .i64 0)), none⟩])
  (.seq (.block 0 (.loop (.seq (.seq (.reg [⟨some 21, .move (.tmp 4), none⟩,
         ⟨some 22, .call ⟨.builtin .len, ⟨[(.tmp 21)]⟩, ⟨[43]⟩⟩, none⟩,
         ⟨some 23, .binOp .lss 3 (.tmp 22) (.const (.int .i64 60)) 3, none⟩])
       (.cond (.tmp 23)
        .skip
        (.exit 0)))
      (.block 1 (.seq (.reg [⟨some 25, .move (.tmp 0), none⟩,
          ⟨some 26, .move (.tmp 6), none⟩,
          ⟨some 27, .slice 9 (.tmp 25) (some (.tmp 26)) none none, none⟩,
          ⟨some 28, .call ⟨.value (.func 83), ⟨[(.tmp 27), (.const (.string ⟨⟨[10]⟩⟩))]⟩, ⟨[9, 9]⟩⟩, none⟩,
          ⟨some 24, .move (.tmp 28), none⟩,
          ⟨some 29, .extract (.tmp 24) 0, none⟩,
          ⟨some 30, .extract (.tmp 24) 1, none⟩,
          ⟨some 31, .extract (.tmp 24) 2, none⟩,
          ⟨some 7, .assign (.tmp 29), none⟩,
          ⟨some 8, .assign (.tmp 30), none⟩,
          ⟨some 9, .assign (.tmp 31), none⟩])
        (.seq (.seq (.reg [⟨some 32, .move (.tmp 9), none⟩,
            ⟨some 33, .unOp .not 4 (.tmp 32), none⟩])
          (.cond (.tmp 33)
           (.exit 0)
           .skip))
         (.seq (.reg [⟨some 35, .move (.tmp 7), none⟩,
            ⟨some 36, .call ⟨.value (.func 83), ⟨[(.tmp 35), (.const (.string ⟨⟨[35]⟩⟩))]⟩, ⟨[9, 9]⟩⟩, none⟩,
            ⟨some 34, .move (.tmp 36), none⟩,
            ⟨some 37, .extract (.tmp 34) 0, none⟩,
            ⟨some 38, .extract (.tmp 34) 1, none⟩,
            ⟨some 39, .extract (.tmp 34) 2, none⟩,
            ⟨some 10, .assign (.tmp 37), none⟩,
            ⟨some 11, .assign (.tmp 38), none⟩,
            ⟨some 12, .assign (.tmp 39), none⟩])
          (.seq (.reg [⟨some 41, .move (.tmp 10), none⟩,
             ⟨some 42, .call ⟨.value (.func 83), ⟨[(.tmp 41), (.const (.string ⟨⟨[32]⟩⟩))]⟩, ⟨[9, 9]⟩⟩, none⟩,
             ⟨some 40, .move (.tmp 42), none⟩,
             ⟨some 43, .extract (.tmp 40) 0, none⟩,
             ⟨some 44, .extract (.tmp 40) 1, none⟩,
             ⟨some 45, .extract (.tmp 40) 2, none⟩,
             ⟨some 13, .assign (.tmp 43), none⟩,
             ⟨some 14, .assign (.tmp 44), none⟩,
             ⟨some 15, .assign (.tmp 45), none⟩])
           (.seq (.reg [⟨some 46, .build 25 ⟨[]⟩, none⟩,
             ⟨some 16, .alloc 25, none⟩,
             ⟨none, .store 25 (.tmp 16) (.tmp 46), none⟩])
            (.seq (.reg [⟨some 48, .move (.tmp 14), none⟩,
             ⟨some 49, .call ⟨.value (.func 83), ⟨[(.tmp 48), (.const (.string ⟨⟨[64]⟩⟩))]⟩, ⟨[9, 9]⟩⟩, none⟩,
             ⟨some 47, .move (.tmp 49), none⟩,
             ⟨some 50, .extract (.tmp 47) 0, none⟩,
             ⟨some 51, .extract (.tmp 47) 1, none⟩,
             ⟨some 52, .extract (.tmp 47) 2, none⟩,
             ⟨some 53, .fieldAddr 25 (.tmp 16) 0, none⟩,
             ⟨none, .store 9 (.tmp 53) (.tmp 50), none⟩,
             ⟨some 54, .fieldAddr 25 (.tmp 16) 1, none⟩,
             ⟨none, .store 9 (.tmp 54) (.tmp 51), none⟩])
            (.seq (.seq (.reg [⟨some 56, .move (.tmp 4), none⟩,
             ⟨some 57, .call ⟨.builtin .len, ⟨[(.tmp 56)]⟩, ⟨[43]⟩⟩, none⟩,
             ⟨some 58, .load 25 (.tmp 16), none⟩,
             ⟨some 59, .call ⟨.value (.func 11), ⟨[(.tmp 57), (.tmp 58)]⟩, ⟨[3, 25]⟩⟩, none⟩,
             ⟨some 55, .move (.tmp 59), none⟩,
             ⟨some 60, .extract (.tmp 55) 0, none⟩,
             ⟨some 61, .extract (.tmp 55) 1, none⟩,
             ⟨some 17, .assign (.tmp 60), none⟩,
             ⟨some 18, .assign (.tmp 61), none⟩])
            (.seq (.reg [⟨some 62, .move (.tmp 18), none⟩,
             ⟨some 63, .unOp .not 4 (.tmp 62), none⟩,
             ⟨some 64, .move (.tmp 63), none⟩,
             ⟨some 65, .move (.tmp 17), some (64, false)⟩,
             ⟨some 66, .move (.tmp 7), some (64, false)⟩,
             ⟨some 67, .binOp .add 9 (.tmp 66) (.const (.string ⟨⟨[10]⟩⟩)) 9, some (64, false)⟩,
             ⟨some 68, .binOp .neq 9 (.tmp 65) (.tmp 67) 9, some (64, false)⟩,
             ⟨some 69, .pick (.tmp 64) (.const (.bool true)) (.tmp 68), none⟩])
            (.cond (.tmp 69)
            (.exit 0)
            .skip)))
            (.seq (.reg [⟨some 70, .move (.tmp 6), none⟩,
             ⟨some 71, .move (.tmp 7), none⟩,
             ⟨some 72, .call ⟨.builtin .len, ⟨[(.tmp 71)]⟩, ⟨[9]⟩⟩, none⟩,
             ⟨some 73, .binOp .add 3 (.tmp 72) (.const (.int .i64 1)) 3, none⟩,
             ⟨some 74, .binOp .add 3 (.tmp 70) (.tmp 73) 3, none⟩,
             ⟨some 6, .assign (.tmp 74), none⟩])
            (.reg [⟨some 75, .move (.tmp 4), none⟩,
             ⟨some 76, .load 25 (.tmp 16), none⟩,
             ⟨some 77, .buildSlice 43 1 ⟨[(0, (.tmp 76))]⟩, none⟩,
             ⟨some 78, .call ⟨.builtin .append, ⟨[(.tmp 75), (.tmp 77)]⟩, ⟨[43, 43]⟩⟩, none⟩,
             ⟨some 79, .move (.tmp 5), none⟩,
             ⟨some 80, .move (.tmp 6), none⟩,
             ⟨some 81, .buildSlice 78 1 ⟨[(0, (.tmp 80))]⟩, none⟩,
             ⟨some 82, .call ⟨.builtin .append, ⟨[(.tmp 79), (.tmp 81)]⟩, ⟨[78, 78]⟩⟩, none⟩,
             ⟨some 4, .assign (.tmp 78), none⟩,
             ⟨some 5, .assign (.tmp 82), none⟩])))))))))))))
   (.seq (.reg [⟨some 83, .move (.tmp 4), none⟩,
      ⟨some 84, .move (.tmp 5), none⟩,
      ⟨some 2, .assign (.tmp 83), none⟩,
      ⟨some 3, .assign (.tmp 84), none⟩])
    .ret))))
theorem F61 : IsFun Tryd.prog 61 h61 s61 [.tmp 2, .tmp 3] 85 := ⟨_, Tryd.func61, by kernel_rfl, by kernel_rfl, by kernel_rfl, by kernel_rfl, by kernel_rfl⟩

/-- slices.Index[[]int,int] -/
def h87 : Hints := {}
def s87 : SC :=
(.seq (.reg [⟨some 4, .assign (.const (.int .i64 0)), none⟩])
 (.seq (.seq (.reg [⟨some 6, .move (.tmp 0), none⟩,
     ⟨some 7, .call ⟨.builtin .len, ⟨[(.tmp 6)]⟩, ⟨[78]⟩⟩, none⟩,
     ⟨some 8, .move (.const (.int .i64 0)), none⟩])
   (.block 0 (.loop (.seq (.reg [⟨some 9, .binOp .lss 3 (.tmp 8) (.tmp 7) 3, none⟩])
      (.seq (.cond (.tmp 9)
        .skip
        (.exit 0))
       (.seq (.block 1 (.seq (.reg [⟨some 10, .move (.tmp 8), none⟩,
            ⟨some 5, .assign (.tmp 10), none⟩])
          (.seq (.reg [⟨some 11, .move (.tmp 1), none⟩,
             ⟨some 12, .move (.tmp 0), none⟩,
             ⟨some 13, .move (.tmp 5), none⟩,
             ⟨some 14, .indexAddr 78 (.tmp 12) (.tmp 13), none⟩,
             ⟨some 15, .load 3 (.tmp 14), none⟩,
             ⟨some 16, .binOp .eql 3 (.tmp 11) (.tmp 15) 3, none⟩])
           (.cond (.tmp 16)
            (.seq (.reg [⟨some 17, .move (.tmp 5), none⟩,
             ⟨some 4, .assign (.tmp 17), none⟩])
            .ret)
            .skip))))
        (.reg [⟨some 18, .binOp .add 3 (.tmp 8) (.const (.int .i64 1)) 3, none⟩,
          ⟨some 8, .move (.tmp 18), none⟩])))))))
  (.seq (.reg [⟨some 4, .assign (.const (.int .i64 (-1))), none⟩])
   .ret)))
theorem F87 : IsFun Tryd.prog 87 h87 s87 [.tmp 4] 19 := ⟨_, Tryd.func87, by kernel_rfl, by kernel_rfl, by kernel_rfl, by kernel_rfl, by kernel_rfl⟩

/-- slices.Contains[[]int,int] -/
def h62 : Hints := {}
def s62 : SC :=
(.seq (.reg [⟨some 4, .assign (.const (.bool false)), none⟩])
 (.seq (.reg [⟨some 5, .move (.tmp 0), none⟩,
    ⟨some 6, .move (.tmp 1), none⟩,
    ⟨some 7, .call ⟨.value (.func 87), ⟨[(.tmp 5), (.tmp 6)]⟩, ⟨[78, 3]⟩⟩, none⟩,
    ⟨some 8, .binOp .geq 3 (.tmp 7) (.const (.int .i64 0)) 3, none⟩,
    ⟨some 4, .assign (.tmp 8), none⟩])
  .ret))
theorem F62 : IsFun Tryd.prog 62 h62 s62 [.tmp 4] 9 := ⟨_, Tryd.func62, by kernel_rfl, by kernel_rfl, by kernel_rfl, by kernel_rfl, by kernel_rfl⟩

/-- impl.IsValidLog -/
def h19 : Hints := {}
def s19 : SC :=
(.seq (.reg [⟨some 1, .box 33 (.tmp 0), none⟩,
   ⟨some 2, .assign (.const (.bool false)), none⟩])
 (.seq (.reg [⟨some 6, .fieldAddr 33 (.tmp 1) 0, none⟩,
    ⟨some 7, .load 9 (.tmp 6), none⟩,
    ⟨some 8, .fieldAddr 33 (.tmp 1) 1, none⟩,
    ⟨some 9, .load 9 (.tmp 8), none⟩,
    ⟨some 10, .binOp .add 9 (.tmp 7) (.tmp 9) 9, none⟩,
    ⟨some 3, .assign (.tmp 10), none⟩])
  (.seq (.seq (.reg [⟨some 11, .move (.tmp 3), none⟩,
      ⟨some 12, .call ⟨.builtin .len, ⟨[(.tmp 11)]⟩, ⟨[9]⟩⟩, none⟩,
      ⟨some 13, .binOp .gtr 3 (.tmp 12) (.const (.int .i64 30000)) 3, none⟩])
    (.cond (.tmp 13)
     (.seq (.reg [⟨some 2, .assign (.const (.bool false)), none⟩])
      .ret)
     .skip))
   (.seq (.reg [⟨some 15, .move (.tmp 3), none⟩,
      ⟨some 16, .call ⟨.value (.func 61), ⟨[(.tmp 15)]⟩, ⟨[9]⟩⟩, none⟩,
      ⟨some 14, .move (.tmp 16), none⟩,
      ⟨some 17, .extract (.tmp 14) 0, none⟩,
      ⟨some 18, .extract (.tmp 14) 1, none⟩,
      ⟨some 4, .assign (.tmp 17), none⟩,
      ⟨some 5, .assign (.tmp 18), none⟩])
    (.seq (.reg [⟨some 19, .move (.tmp 5), none⟩,
       ⟨some 20, .move (.tmp 5), none⟩,
       ⟨some 21, .call ⟨.builtin .len, ⟨[(.tmp 20)]⟩, ⟨[78]⟩⟩, none⟩,
       ⟨some 22, .binOp .sub 3 (.tmp 21) (.const (.int .i64 1)) 3, none⟩,
       ⟨some 23, .indexAddr 78 (.tmp 19) (.tmp 22), none⟩,
       ⟨some 24, .load 3 (.tmp 23), none⟩,
       ⟨some 25, .move (.tmp 3), none⟩,
       ⟨some 26, .call ⟨.builtin .len, ⟨[(.tmp 25)]⟩, ⟨[9]⟩⟩, none⟩,
       ⟨some 27, .binOp .eql 3 (.tmp 24) (.tmp 26) 3, none⟩,
       ⟨some 28, .move (.tmp 27), none⟩,
       ⟨some 29, .move (.tmp 5), some (28, true)⟩,
       ⟨some 30, .fieldAddr 33 (.tmp 1) 0, some (28, true)⟩,
       ⟨some 31, .load 9 (.tmp 30), some (28, true)⟩,
       ⟨some 32, .call ⟨.builtin .len, ⟨[(.tmp 31)]⟩, ⟨[9]⟩⟩, some (28, true)⟩,
       ⟨some 33, .call ⟨.value (.func 62), ⟨[(.tmp 29), (.tmp 32)]⟩, ⟨[78, 3]⟩⟩, some (28, true)⟩,
       ⟨some 34, .pick (.tmp 28) (.tmp 33) (.const (.bool false)), none⟩,
       ⟨some 35, .move (.tmp 34), none⟩,
       ⟨some 36, .fieldAddr 33 (.tmp 1) 2, some (35, true)⟩,
       ⟨some 37, .load 3 (.tmp 36), some (35, true)⟩,
       ⟨some 38, .move (.tmp 4), some (35, true)⟩,
       ⟨some 39, .call ⟨.builtin .len, ⟨[(.tmp 38)]⟩, ⟨[43]⟩⟩, some (35, true)⟩,
       ⟨some 40, .binOp .eql 3 (.tmp 37) (.tmp 39) 3, some (35, true)⟩,
       ⟨some 41, .pick (.tmp 35) (.tmp 40) (.const (.bool false)), none⟩,
       ⟨some 2, .assign (.tmp 41), none⟩])
     .ret)))))
theorem F19 : IsFun Tryd.prog 19 h19 s19 [.tmp 2] 42 := ⟨_, Tryd.func19, by kernel_rfl, by kernel_rfl, by kernel_rfl, by kernel_rfl, by kernel_rfl⟩

/-- impl.AppendRecord -/
def h15 : Hints := {}
def s15 : SC :=
(.seq (.reg [⟨some 2, .box 33 (.tmp 0), none⟩,
   ⟨some 3, .box 25 (.tmp 1), none⟩,
   ⟨some 4, .alloc 33, none⟩,
   ⟨some 5, .assign (.const (.int .i64 0)), none⟩])
 (.seq (.block 0 (.seq (.reg [⟨some 9, .load 33 (.tmp 2), none⟩,
      ⟨some 10, .call ⟨.value (.func 19), ⟨[(.tmp 9)]⟩, ⟨[33]⟩⟩, none⟩,
      ⟨some 11, .unOp .not 4 (.tmp 10), none⟩,
      ⟨some 12, .move (.tmp 11), none⟩,
      ⟨some 13, .load 25 (.tmp 3), some (12, false)⟩,
      ⟨some 14, .call ⟨.value (.func 17), ⟨[(.tmp 13)]⟩, ⟨[25]⟩⟩, some (12, false)⟩,
      ⟨some 15, .unOp .not 4 (.tmp 14), some (12, false)⟩,
      ⟨some 16, .pick (.tmp 12) (.const (.bool true)) (.tmp 15), none⟩,
      ⟨some 8, .assign (.tmp 16), none⟩])
    (.cond (.tmp 8)
     (.seq (.reg [⟨some 17, .load 33 (.tmp 2), none⟩,
        ⟨none, .store 33 (.tmp 4) (.tmp 17), none⟩,
        ⟨some 5, .assign (.const (.int .i64 1)), none⟩])
      .ret)
     (.seq (.reg [⟨some 19, .fieldAddr 33 (.tmp 2) 2, none⟩,
        ⟨some 20, .load 3 (.tmp 19), none⟩,
        ⟨some 21, .binOp .eql 3 (.tmp 20) (.const (.int .i64 60)) 3, none⟩,
        ⟨some 18, .assign (.tmp 21), none⟩])
      (.cond (.tmp 18)
       (.seq (.reg [⟨some 22, .load 33 (.tmp 2), none⟩,
          ⟨none, .store 33 (.tmp 4) (.tmp 22), none⟩,
          ⟨some 5, .assign (.const (.int .i64 2)), none⟩])
        .ret)
       .skip)))))
  (.seq (.reg [⟨some 24, .fieldAddr 33 (.tmp 2) 2, none⟩,
     ⟨some 25, .load 3 (.tmp 24), none⟩,
     ⟨some 26, .load 25 (.tmp 3), none⟩,
     ⟨some 27, .call ⟨.value (.func 11), ⟨[(.tmp 25), (.tmp 26)]⟩, ⟨[3, 25]⟩⟩, none⟩,
     ⟨some 23, .move (.tmp 27), none⟩,
     ⟨some 28, .extract (.tmp 23) 0, none⟩,
     ⟨some 29, .extract (.tmp 23) 1, none⟩,
     ⟨some 6, .assign (.tmp 28), none⟩,
     ⟨some 7, .assign (.tmp 29), none⟩])
   (.seq (.reg [⟨some 30, .fieldAddr 33 (.tmp 2) 0, none⟩,
      ⟨some 31, .load 9 (.tmp 30), none⟩,
      ⟨some 32, .fieldAddr 33 (.tmp 2) 1, none⟩,
      ⟨some 33, .load 9 (.tmp 32), none⟩,
      ⟨some 34, .move (.tmp 6), none⟩,
      ⟨some 35, .binOp .add 9 (.tmp 33) (.tmp 34) 9, none⟩,
      ⟨some 36, .fieldAddr 33 (.tmp 2) 2, none⟩,
      ⟨some 37, .load 3 (.tmp 36), none⟩,
      ⟨some 38, .binOp .add 3 (.tmp 37) (.const (.int .i64 1)) 3, none⟩,
      ⟨some 39, .build 33 ⟨[(0, (.tmp 31)), (1, (.tmp 35)), (2, (.tmp 38))]⟩, none⟩,
      ⟨none, .store 33 (.tmp 4) (.tmp 39), none⟩,
      ⟨some 5, .assign (.const (.int .i64 0)), none⟩])
    .ret))))
theorem F15 : IsFun Tryd.prog 15 h15 s15 [.cell 4 33, .tmp 5] 40 := ⟨_, Tryd.func15, by kernel_rfl, by kernel_rfl, by kernel_rfl, by kernel_rfl, by kernel_rfl⟩

/-- spec.IsValidRecord -/
def h18 : Hints := {}
def s18 : SC :=
(.seq (.reg [⟨some 1, .box 25 (.tmp 0), none⟩,
   ⟨some 2, .assign (.const (.bool false)), none⟩])
 (.seq (.reg [⟨some 3, .load 25 (.tmp 1), none⟩,
    ⟨some 4, .call ⟨.value (.func 53), ⟨[(.tmp 3)]⟩, ⟨[25]⟩⟩, none⟩,
    ⟨some 2, .assign (.tmp 4), none⟩])
  .ret))
theorem F18 : IsFun Tryd.prog 18 h18 s18 [.tmp 2] 5 := ⟨_, Tryd.func18, by kernel_rfl, by kernel_rfl, by kernel_rfl, by kernel_rfl, by kernel_rfl⟩

/-- spec.IsValidLog -/
def h20 : Hints := {}
def s20 : SC :=
(.seq (.reg [⟨some 1, .box 33 (.tmp 0), none⟩,
   ⟨some 2, .assign (.const (.bool false)), none⟩])
 (.seq (.reg [⟨some 3, .load 33 (.tmp 1), none⟩,
    ⟨some 4, .call ⟨.value (.func 58), ⟨[(.tmp 3)]⟩, ⟨[33]⟩⟩, none⟩,
    ⟨some 2, .assign (.tmp 4), none⟩])
  .ret))
theorem F20 : IsFun Tryd.prog 20 h20 s20 [.tmp 2] 5 := ⟨_, Tryd.func20, by kernel_rfl, by kernel_rfl, by kernel_rfl, by kernel_rfl, by kernel_rfl⟩

/-- impl.SyncLog -/
def h21 : Hints := {}
def s21 : SC :=
(.seq (.reg [⟨some 1, .box 33 (.tmp 0), none⟩,
   ⟨some 2, .alloc 33, none⟩,
   ⟨some 3, .assign (.const (.bool false)), none⟩])
 (.seq (.seq (.reg [⟨some 4, .load 33 (.tmp 1), none⟩,
     ⟨some 5, .call ⟨.value (.func 19), ⟨[(.tmp 4)]⟩, ⟨[33]⟩⟩, none⟩,
     ⟨some 6, .unOp .not 4 (.tmp 5), none⟩])
   (.cond (.tmp 6)
    (.seq (.reg [⟨some 7, .build 33 ⟨[]⟩, none⟩,
       ⟨none, .store 33 (.tmp 2) (.tmp 7), none⟩,
       ⟨some 3, .assign (.const (.bool false)), none⟩])
     .ret)
    .skip))
  (.seq (.reg [⟨some 8, .fieldAddr 33 (.tmp 1) 0, none⟩,
     ⟨some 9, .load 9 (.tmp 8), none⟩,
     ⟨some 10, .fieldAddr 33 (.tmp 1) 1, none⟩,
     ⟨some 11, .load 9 (.tmp 10), none⟩,
     ⟨some 12, .binOp .add 9 (.tmp 9) (.tmp 11) 9, none⟩,
     ⟨some 13, .fieldAddr 33 (.tmp 1) 2, none⟩,
     ⟨some 14, .load 3 (.tmp 13), none⟩,
     ⟨some 15, .build 33 ⟨[(0, (.tmp 12)), (2, (.tmp 14))]⟩, none⟩,
     ⟨none, .store 33 (.tmp 2) (.tmp 15), none⟩,
     ⟨some 3, .assign (.const (.bool true)), none⟩])
   .ret)))
theorem F21 : IsFun Tryd.prog 21 h21 s21 [.cell 2 33, .tmp 3] 16 := ⟨_, Tryd.func21, by kernel_rfl, by kernel_rfl, by kernel_rfl, by kernel_rfl, by kernel_rfl⟩

/-- impl.LogRecords -/
def h23 : Hints := { trs := [18], cps := [], refs := [] }
def s23 : SC :=
(.seq (.reg [⟨some 1, .box 33 (.tmp 0), none⟩,
   ⟨some 2, .assign (.const (.slice none 0 0)), none⟩,
   ⟨some 3, .assign (.const (.bool false)), none⟩])
 (.seq (.seq (.reg [⟨some 6, .load 33 (.tmp 1), none⟩,
     ⟨some 7, .call ⟨.value (.func 19), ⟨[(.tmp 6)]⟩, ⟨[33]⟩⟩, none⟩,
     ⟨some 8, .unOp .not 4 (.tmp 7), none⟩])
   (.cond (.tmp 8)
    (.seq (.reg [⟨some 2, .assign (.const (.slice none 0 0)), none⟩,
       ⟨some 3, .assign (.const (.bool false)), none⟩])
     .ret)
    .skip))
  (.seq (.reg [⟨some 10, .fieldAddr 33 (.tmp 1) 0, none⟩,
     ⟨some 11, .load 9 (.tmp 10), none⟩,
     ⟨some 12, .fieldAddr 33 (.tmp 1) 1, none⟩,
     ⟨some 13, .load 9 (.tmp 12), none⟩,
     ⟨some 14, .binOp .add 9 (.tmp 11) (.tmp 13) 9, none⟩,
     ⟨some 15, .call ⟨.value (.func 61), ⟨[(.tmp 14)]⟩, ⟨[9]⟩⟩, none⟩,
     ⟨some 9, .move (.tmp 15), none⟩,
     ⟨some 16, .extract (.tmp 9) 0, none⟩,
     ⟨some 17, .extract (.tmp 9) 1, none⟩,
     ⟨some 4, .assign (.tmp 16), none⟩,
     ⟨some 5, .assign (.tmp 17), none⟩])
   (.seq (.reg [⟨some 18, .move (.tmp 4), none⟩,
      ⟨some 2, .assign (.tmp 18), none⟩,
      ⟨some 3, .assign (.const (.bool true)), none⟩])
    .ret))))
theorem F23 : IsFun Tryd.prog 23 h23 s23 [.tmp 2, .tmp 3] 19 := ⟨_, Tryd.func23, by kernel_rfl, by kernel_rfl, by kernel_rfl, by kernel_rfl, by kernel_rfl⟩

/-- spec.LogRecords -/
def h24 : Hints := { trs := [19], cps := [], refs := [] }
def s24 : SC :=
(.seq (.reg [⟨some 1, .box 33 (.tmp 0), none⟩,
   ⟨some 2, .assign (.const (.slice none 0 0)), none⟩,
   ⟨some 3, .assign (.const (.bool false)), none⟩])
 (.seq (.seq (.reg [⟨some 6, .load 33 (.tmp 1), none⟩,
     ⟨some 7, .call ⟨.value (.func 58), ⟨[(.tmp 6)]⟩, ⟨[33]⟩⟩, none⟩,
     ⟨some 8, .unOp .not 4 (.tmp 7), none⟩])
   (.cond (.tmp 8)
    (.seq (.reg [⟨some 9, .buildSlice 43 0 ⟨[]⟩, none⟩,
       ⟨some 2, .assign (.tmp 9), none⟩,
       ⟨some 3, .assign (.const (.bool false)), none⟩])
     .ret)
    .skip))
  (.seq (.reg [⟨some 11, .fieldAddr 33 (.tmp 1) 0, none⟩,
     ⟨some 12, .load 9 (.tmp 11), none⟩,
     ⟨some 13, .fieldAddr 33 (.tmp 1) 1, none⟩,
     ⟨some 14, .load 9 (.tmp 13), none⟩,
     ⟨some 15, .binOp .add 9 (.tmp 12) (.tmp 14) 9, none⟩,
     ⟨some 16, .call ⟨.value (.func 63), ⟨[(.tmp 15)]⟩, ⟨[9]⟩⟩, none⟩,
     ⟨some 10, .move (.tmp 16), none⟩,
     ⟨some 17, .extract (.tmp 10) 0, none⟩,
     ⟨some 18, .extract (.tmp 10) 1, none⟩,
     ⟨some 4, .assign (.tmp 17), none⟩,
     ⟨some 5, .assign (.tmp 18), none⟩])
   (.seq (.reg [⟨some 19, .move (.tmp 4), none⟩,
      ⟨some 2, .assign (.tmp 19), none⟩,
      ⟨some 3, .assign (.const (.bool true)), none⟩])
    .ret))))
theorem F24 : IsFun Tryd.prog 24 h24 s24 [.tmp 2, .tmp 3] 20 := ⟨_, Tryd.func24, by kernel_rfl, by kernel_rfl, by kernel_rfl, by kernel_rfl, by kernel_rfl⟩

/-- laws.vRecords -/
def h25 : Hints := {}
def s25 : SC :=
(.seq (.reg [⟨some 4, .assign (.const (.bool false)), none⟩])
 (.seq (.seq (.reg [⟨some 6, .move (.tmp 0), none⟩,
     ⟨some 7, .call ⟨.builtin .len, ⟨[(.tmp 6)]⟩, ⟨[43]⟩⟩, none⟩,
     ⟨some 8, .move (.tmp 1), none⟩,
     ⟨some 9, .call ⟨.builtin .len, ⟨[(.tmp 8)]⟩, ⟨[43]⟩⟩, none⟩,
     ⟨some 10, .binOp .neq 3 (.tmp 7) (.tmp 9) 3, none⟩])
   (.cond (.tmp 10)
    (.seq (.reg [⟨some 4, .assign (.const (.bool false)), none⟩])
     .ret)
    .skip))
  (.seq (.seq (.reg [⟨some 5, .assign (.const (.int .i64 0)), none⟩])
    (.block 0 (.loop (.seq (.seq (.reg [⟨some 11, .move (.tmp 5), none⟩,
          ⟨some 12, .move (.tmp 0), none⟩,
          ⟨some 13, .call ⟨.builtin .len, ⟨[(.tmp 12)]⟩, ⟨[43]⟩⟩, none⟩,
          ⟨some 14, .binOp .lss 3 (.tmp 11) (.tmp 13) 3, none⟩])
        (.cond (.tmp 14)
         .skip
         (.exit 0)))
       (.seq (.block 1 (.seq (.reg [⟨some 17, .move (.tmp 0), none⟩,
            ⟨some 18, .move (.tmp 5), none⟩,
            ⟨some 19, .indexAddr 43 (.tmp 17) (.tmp 18), none⟩,
            ⟨some 20, .load 25 (.tmp 19), none⟩,
            ⟨some 21, .move (.tmp 1), none⟩,
            ⟨some 22, .move (.tmp 5), none⟩,
            ⟨some 23, .indexAddr 43 (.tmp 21) (.tmp 22), none⟩,
            ⟨some 24, .load 25 (.tmp 23), none⟩,
            ⟨some 25, .binOp .neq 25 (.tmp 20) (.tmp 24) 25, none⟩])
          (.cond (.tmp 25)
           (.seq (.reg [⟨some 4, .assign (.const (.bool false)), none⟩])
            .ret)
           .skip)))
        (.reg [⟨some 15, .move (.tmp 5), none⟩,
          ⟨some 16, .binOp .add 3 (.tmp 15) (.const (.int .i64 1)) 3, none⟩,
          ⟨some 5, .assign (.tmp 16), none⟩]))))))
   (.seq (.reg [⟨some 4, .assign (.const (.bool true)), none⟩])
    .ret))))
theorem F25 : IsFun Tryd.prog 25 h25 s25 [.tmp 4] 26 := ⟨_, Tryd.func25, by kernel_rfl, by kernel_rfl, by kernel_rfl, by kernel_rfl, by kernel_rfl⟩

/-- laws.FnLogs -/
def h3 : Hints := { trs := [], cps := [2], refs := [] }
def s3 : SC :=
(.seq (.reg [⟨some 2, .assign (.const (.bool false)), none⟩])
 (.seq (.seq (.reg [⟨some 29, .move (.tmp 0), none⟩,
     ⟨some 30, .call ⟨.value (.func 7), ⟨[(.tmp 29)]⟩, ⟨[22]⟩⟩, none⟩])
   (.cond (.tmp 30)
    (.seq (.reg [⟨some 2, .assign (.const (.bool true)), none⟩])
     .ret)
    .skip))
  (.seq (.reg [⟨some 31, .move (.tmp 0), none⟩,
     ⟨some 32, .call ⟨.value (.func 8), ⟨[(.tmp 31)]⟩, ⟨[22]⟩⟩, none⟩,
     ⟨some 3, .alloc 25, none⟩,
     ⟨none, .store 25 (.tmp 3) (.tmp 32), none⟩])
   (.seq (.reg [⟨some 34, .move (.tmp 0), none⟩,
      ⟨some 35, .call ⟨.value (.func 10), ⟨[(.tmp 34), (.const (.int .i64 1))]⟩, ⟨[22, 3]⟩⟩, none⟩,
      ⟨some 36, .call ⟨.value (.func 9), ⟨[(.tmp 35)]⟩, ⟨[22]⟩⟩, none⟩,
      ⟨some 33, .move (.tmp 36), none⟩,
      ⟨some 37, .extract (.tmp 33) 0, none⟩,
      ⟨some 38, .extract (.tmp 33) 1, none⟩,
      ⟨some 5, .alloc 25, none⟩,
      ⟨some 4, .assign (.tmp 37), none⟩,
      ⟨none, .store 25 (.tmp 5) (.tmp 38), none⟩])
    (.seq (.reg [⟨some 40, .move (.tmp 4), none⟩,
       ⟨some 41, .load 25 (.tmp 5), none⟩,
       ⟨some 42, .call ⟨.value (.func 11), ⟨[(.tmp 40), (.tmp 41)]⟩, ⟨[3, 25]⟩⟩, none⟩,
       ⟨some 39, .move (.tmp 42), none⟩,
       ⟨some 43, .extract (.tmp 39) 0, none⟩,
       ⟨some 44, .extract (.tmp 39) 1, none⟩,
       ⟨some 6, .assign (.tmp 43), none⟩,
       ⟨some 7, .assign (.tmp 44), none⟩])
     (.seq (.reg [⟨some 46, .move (.tmp 4), none⟩,
        ⟨some 47, .load 25 (.tmp 5), none⟩,
        ⟨some 48, .call ⟨.value (.func 12), ⟨[(.tmp 46), (.tmp 47)]⟩, ⟨[3, 25]⟩⟩, none⟩,
        ⟨some 45, .move (.tmp 48), none⟩,
        ⟨some 49, .extract (.tmp 45) 0, none⟩,
        ⟨some 50, .extract (.tmp 45) 1, none⟩,
        ⟨some 8, .assign (.tmp 49), none⟩,
        ⟨some 9, .assign (.tmp 50), none⟩])
      (.seq (.reg [⟨some 51, .move (.tmp 0), none⟩,
         ⟨some 52, .call ⟨.value (.func 10), ⟨[(.tmp 51), (.const (.int .i64 2))]⟩, ⟨[22, 3]⟩⟩, none⟩,
         ⟨some 53, .call ⟨.value (.func 13), ⟨[(.tmp 52)]⟩, ⟨[22]⟩⟩, none⟩,
         ⟨some 10, .alloc 33, none⟩,
         ⟨none, .store 33 (.tmp 10) (.tmp 53), none⟩])
       (.seq (.reg [⟨some 55, .move (.tmp 0), none⟩,
          ⟨some 56, .call ⟨.value (.func 10), ⟨[(.tmp 55), (.const (.int .i64 3))]⟩, ⟨[22, 3]⟩⟩, none⟩,
          ⟨some 57, .call ⟨.value (.func 14), ⟨[(.tmp 56)]⟩, ⟨[22]⟩⟩, none⟩,
          ⟨some 54, .move (.tmp 57), none⟩,
          ⟨some 58, .extract (.tmp 54) 0, none⟩,
          ⟨some 59, .extract (.tmp 54) 1, none⟩,
          ⟨some 11, .alloc 33, none⟩,
          ⟨some 12, .alloc 25, none⟩,
          ⟨none, .store 33 (.tmp 11) (.tmp 58), none⟩,
          ⟨none, .store 25 (.tmp 12) (.tmp 59), none⟩])
        (.seq (.reg [⟨some 61, .load 33 (.tmp 11), none⟩,
           ⟨some 62, .load 25 (.tmp 12), none⟩,
           ⟨some 63, .call ⟨.value (.func 15), ⟨[(.tmp 61), (.tmp 62)]⟩, ⟨[33, 25]⟩⟩, none⟩,
           ⟨some 60, .move (.tmp 63), none⟩,
           ⟨some 64, .extract (.tmp 60) 0, none⟩,
           ⟨some 65, .extract (.tmp 60) 1, none⟩,
           ⟨some 13, .alloc 33, none⟩,
           ⟨none, .store 33 (.tmp 13) (.tmp 64), none⟩,
           ⟨some 14, .assign (.tmp 65), none⟩])
         (.seq (.reg [⟨some 67, .load 33 (.tmp 11), none⟩,
            ⟨some 68, .load 25 (.tmp 12), none⟩,
            ⟨some 69, .call ⟨.value (.func 16), ⟨[(.tmp 67), (.tmp 68)]⟩, ⟨[33, 25]⟩⟩, none⟩,
            ⟨some 66, .move (.tmp 69), none⟩,
            ⟨some 70, .extract (.tmp 66) 0, none⟩,
            ⟨some 71, .extract (.tmp 66) 1, none⟩,
            ⟨some 15, .alloc 33, none⟩,
            ⟨none, .store 33 (.tmp 15) (.tmp 70), none⟩,
            ⟨some 16, .assign (.tmp 71), none⟩])
          (.seq (.seq (.regp [⟨some 72, .load 25 (.tmp 3), none⟩,
             ⟨some 74, .load 25 (.tmp 3), none⟩,
             ⟨some 73, .call ⟨.value (.func 17), ⟨[(.tmp 72)]⟩, ⟨[25]⟩⟩, none⟩,
             ⟨some 75, .call ⟨.value (.func 18), ⟨[(.tmp 74)]⟩, ⟨[25]⟩⟩, none⟩,
             ⟨some 76, .binOp .neq 4 (.tmp 73) (.tmp 75) 4, none⟩,
             ⟨some 77, .move (.tmp 76), none⟩,
             ⟨some 78, .move (.tmp 6), some (77, false)⟩,
             ⟨some 79, .move (.tmp 8), some (77, false)⟩,
             ⟨some 80, .binOp .neq 9 (.tmp 78) (.tmp 79) 9, some (77, false)⟩,
             ⟨some 81, .pick (.tmp 77) (.const (.bool true)) (.tmp 80), none⟩,
             ⟨some 82, .move (.tmp 81), none⟩,
             ⟨some 83, .move (.tmp 7), some (82, false)⟩,
             ⟨some 84, .move (.tmp 9), some (82, false)⟩,
             ⟨some 85, .binOp .neq 4 (.tmp 83) (.tmp 84) 4, some (82, false)⟩,
             ⟨some 86, .pick (.tmp 82) (.const (.bool true)) (.tmp 85), none⟩,
             ⟨some 87, .move (.tmp 86), none⟩,
             ⟨some 88, .load 33 (.tmp 10), some (87, false)⟩,
             ⟨some 90, .load 33 (.tmp 10), some (87, false)⟩,
             ⟨some 89, .call ⟨.value (.func 19), ⟨[(.tmp 88)]⟩, ⟨[33]⟩⟩, some (87, false)⟩,
             ⟨some 91, .call ⟨.value (.func 20), ⟨[(.tmp 90)]⟩, ⟨[33]⟩⟩, some (87, false)⟩,
             ⟨some 92, .binOp .neq 4 (.tmp 89) (.tmp 91) 4, some (87, false)⟩,
             ⟨some 93, .pick (.tmp 87) (.const (.bool true)) (.tmp 92), none⟩,
             ⟨some 94, .move (.tmp 93), none⟩,
             ⟨some 95, .load 33 (.tmp 13), some (94, false)⟩,
             ⟨some 96, .load 33 (.tmp 15), some (94, false)⟩,
             ⟨some 97, .binOp .neq 33 (.tmp 95) (.tmp 96) 33, some (94, false)⟩,
             ⟨some 98, .pick (.tmp 94) (.const (.bool true)) (.tmp 97), none⟩,
             ⟨some 99, .move (.tmp 98), none⟩,
             ⟨some 100, .move (.tmp 14), some (99, false)⟩,
             ⟨some 101, .move (.tmp 16), some (99, false)⟩,
             ⟨some 102, .binOp .neq 3 (.tmp 100) (.tmp 101) 3, some (99, false)⟩,
             ⟨some 103, .pick (.tmp 99) (.const (.bool true)) (.tmp 102), none⟩])
            (.cond (.tmp 103)
            (.seq (.reg [⟨some 2, .assign (.const (.bool false)), none⟩])
            .ret)
            .skip))
           (.seq (.reg [⟨some 105, .load 33 (.tmp 11), none⟩,
             ⟨some 106, .call ⟨.value (.func 21), ⟨[(.tmp 105)]⟩, ⟨[33]⟩⟩, none⟩,
             ⟨some 104, .move (.tmp 106), none⟩,
             ⟨some 107, .extract (.tmp 104) 0, none⟩,
             ⟨some 108, .extract (.tmp 104) 1, none⟩,
             ⟨some 17, .alloc 33, none⟩,
             ⟨none, .store 33 (.tmp 17) (.tmp 107), none⟩,
             ⟨some 18, .assign (.tmp 108), none⟩])
            (.seq (.reg [⟨some 110, .load 33 (.tmp 11), none⟩,
             ⟨some 111, .call ⟨.value (.func 22), ⟨[(.tmp 110)]⟩, ⟨[33]⟩⟩, none⟩,
             ⟨some 109, .move (.tmp 111), none⟩,
             ⟨some 112, .extract (.tmp 109) 0, none⟩,
             ⟨some 113, .extract (.tmp 109) 1, none⟩,
             ⟨some 19, .alloc 33, none⟩,
             ⟨none, .store 33 (.tmp 19) (.tmp 112), none⟩,
             ⟨some 20, .assign (.tmp 113), none⟩])
            (.seq (.reg [⟨some 115, .load 33 (.tmp 11), none⟩,
             ⟨some 116, .call ⟨.value (.func 23), ⟨[(.tmp 115)]⟩, ⟨[33]⟩⟩, none⟩,
             ⟨some 114, .move (.tmp 116), none⟩,
             ⟨some 117, .extract (.tmp 114) 0, none⟩,
             ⟨some 118, .extract (.tmp 114) 1, none⟩,
             ⟨some 21, .assign (.tmp 117), none⟩,
             ⟨some 22, .assign (.tmp 118), none⟩])
            (.seq (.reg [⟨some 120, .load 33 (.tmp 11), none⟩,
             ⟨some 121, .call ⟨.value (.func 24), ⟨[(.tmp 120)]⟩, ⟨[33]⟩⟩, none⟩,
             ⟨some 119, .move (.tmp 121), none⟩,
             ⟨some 122, .extract (.tmp 119) 0, none⟩,
             ⟨some 123, .extract (.tmp 119) 1, none⟩,
             ⟨some 23, .assign (.tmp 122), none⟩,
             ⟨some 24, .assign (.tmp 123), none⟩])
            (.seq (.seq (.reg [⟨some 124, .load 33 (.tmp 17), none⟩,
             ⟨some 125, .load 33 (.tmp 19), none⟩,
             ⟨some 126, .binOp .neq 33 (.tmp 124) (.tmp 125) 33, none⟩,
             ⟨some 127, .move (.tmp 126), none⟩,
             ⟨some 128, .move (.tmp 18), some (127, false)⟩,
             ⟨some 129, .move (.tmp 20), some (127, false)⟩,
             ⟨some 130, .binOp .neq 4 (.tmp 128) (.tmp 129) 4, some (127, false)⟩,
             ⟨some 131, .pick (.tmp 127) (.const (.bool true)) (.tmp 130), none⟩,
             ⟨some 132, .move (.tmp 131), none⟩,
             ⟨some 133, .move (.tmp 22), some (132, false)⟩,
             ⟨some 134, .move (.tmp 24), some (132, false)⟩,
             ⟨some 135, .binOp .neq 4 (.tmp 133) (.tmp 134) 4, some (132, false)⟩,
             ⟨some 136, .pick (.tmp 132) (.const (.bool true)) (.tmp 135), none⟩,
             ⟨some 137, .move (.tmp 136), none⟩,
             ⟨some 138, .move (.tmp 21), some (137, false)⟩,
             ⟨some 139, .move (.tmp 23), some (137, false)⟩,
             ⟨some 140, .call ⟨.value (.func 25), ⟨[(.tmp 138), (.tmp 139)]⟩, ⟨[43, 43]⟩⟩, some (137, false)⟩,
             ⟨some 141, .unOp .not 4 (.tmp 140), some (137, false)⟩,
             ⟨some 142, .pick (.tmp 137) (.const (.bool true)) (.tmp 141), none⟩])
            (.cond (.tmp 142)
            (.seq (.reg [⟨some 2, .assign (.const (.bool false)), none⟩])
            .ret)
            .skip))
            (.seq (.reg [⟨some 144, .load 33 (.tmp 17), none⟩,
             ⟨some 145, .call ⟨.value (.func 23), ⟨[(.tmp 144)]⟩, ⟨[33]⟩⟩, none⟩,
             ⟨some 143, .move (.tmp 145), none⟩,
             ⟨some 146, .extract (.tmp 143) 0, none⟩,
             ⟨some 147, .extract (.tmp 143) 1, none⟩,
             ⟨some 25, .assign (.tmp 146), none⟩,
             ⟨some 26, .assign (.tmp 147), none⟩])
            (.seq (.seq (.reg [⟨some 148, .move (.tmp 18), none⟩,
             ⟨some 149, .move (.tmp 148), none⟩,
             ⟨some 150, .move (.tmp 25), some (149, true)⟩,
             ⟨some 151, .move (.tmp 21), some (149, true)⟩,
             ⟨some 152, .call ⟨.value (.func 25), ⟨[(.tmp 150), (.tmp 151)]⟩, ⟨[43, 43]⟩⟩, some (149, true)⟩,
             ⟨some 153, .unOp .not 4 (.tmp 152), some (149, true)⟩,
             ⟨some 154, .pick (.tmp 149) (.tmp 153) (.const (.bool false)), none⟩])
            (.cond (.tmp 154)
            (.seq (.reg [⟨some 2, .assign (.const (.bool false)), none⟩])
            .ret)
            .skip))
            (.seq (.seq (.reg [⟨some 155, .move (.tmp 14), none⟩,
             ⟨some 156, .binOp .neq 3 (.tmp 155) (.const (.int .i64 0)) 3, none⟩])
            (.cond (.tmp 156)
            (.seq (.reg [⟨some 157, .load 33 (.tmp 13), none⟩,
             ⟨some 158, .load 33 (.tmp 11), none⟩,
             ⟨some 159, .binOp .eql 33 (.tmp 157) (.tmp 158) 33, none⟩,
             ⟨some 2, .assign (.tmp 159), none⟩])
            .ret)
            .skip))
            (.seq (.reg [⟨some 161, .load 33 (.tmp 13), none⟩,
             ⟨some 162, .call ⟨.value (.func 23), ⟨[(.tmp 161)]⟩, ⟨[33]⟩⟩, none⟩,
             ⟨some 160, .move (.tmp 162), none⟩,
             ⟨some 163, .extract (.tmp 160) 0, none⟩,
             ⟨some 164, .extract (.tmp 160) 1, none⟩,
             ⟨some 27, .assign (.tmp 163), none⟩,
             ⟨some 28, .assign (.tmp 164), none⟩])
            (.seq (.reg [⟨some 165, .load 33 (.tmp 13), none⟩,
             ⟨some 166, .call ⟨.value (.func 19), ⟨[(.tmp 165)]⟩, ⟨[33]⟩⟩, none⟩,
             ⟨some 167, .move (.tmp 166), none⟩,
             ⟨some 168, .move (.tmp 27), some (167, true)⟩,
             ⟨some 169, .call ⟨.builtin .len, ⟨[(.tmp 168)]⟩, ⟨[43]⟩⟩, some (167, true)⟩,
             ⟨some 170, .move (.tmp 21), some (167, true)⟩,
             ⟨some 171, .call ⟨.builtin .len, ⟨[(.tmp 170)]⟩, ⟨[43]⟩⟩, some (167, true)⟩,
             ⟨some 172, .binOp .add 3 (.tmp 171) (.const (.int .i64 1)) 3, some (167, true)⟩,
             ⟨some 173, .binOp .eql 3 (.tmp 169) (.tmp 172) 3, some (167, true)⟩,
             ⟨some 174, .pick (.tmp 167) (.tmp 173) (.const (.bool false)), none⟩,
             ⟨some 175, .move (.tmp 174), none⟩,
             ⟨some 176, .move (.tmp 27), some (175, true)⟩,
             ⟨some 177, .move (.tmp 21), some (175, true)⟩,
             ⟨some 178, .call ⟨.builtin .len, ⟨[(.tmp 177)]⟩, ⟨[43]⟩⟩, some (175, true)⟩,
             ⟨some 179, .slice 43 (.tmp 176) none (some (.tmp 178)) none, some (175, true)⟩,
             ⟨some 180, .move (.tmp 21), some (175, true)⟩,
             ⟨some 181, .call ⟨.value (.func 25), ⟨[(.tmp 179), (.tmp 180)]⟩, ⟨[43, 43]⟩⟩, some (175, true)⟩,
             ⟨some 182, .pick (.tmp 175) (.tmp 181) (.const (.bool false)), none⟩,
             ⟨some 183, .move (.tmp 182), none⟩,
             ⟨some 184, .move (.tmp 27), some (183, true)⟩,
             ⟨some 185, .move (.tmp 21), some (183, true)⟩,
             ⟨some 186, .call ⟨.builtin .len, ⟨[(.tmp 185)]⟩, ⟨[43]⟩⟩, some (183, true)⟩,
             ⟨some 187, .indexAddr 43 (.tmp 184) (.tmp 186), some (183, true)⟩,
             ⟨some 188, .load 25 (.tmp 187), some (183, true)⟩,
             ⟨some 189, .load 25 (.tmp 12), some (183, true)⟩,
             ⟨some 190, .binOp .eql 25 (.tmp 188) (.tmp 189) 25, some (183, true)⟩,
             ⟨some 191, .pick (.tmp 183) (.tmp 190) (.const (.bool false)), none⟩,
             ⟨some 2, .assign (.tmp 191), none⟩])
            .ret)))))))))))))))))))))
theorem F3 : IsFun Tryd.prog 3 h3 s3 [.tmp 2] 192 := ⟨_, Tryd.func3, by kernel_rfl, by kernel_rfl, by kernel_rfl, by kernel_rfl, by kernel_rfl⟩

/-- spec.DrawCrashLog -/
def h26 : Hints := { trs := [], cps := [3, 4], refs := [], tree := true }
def s26 : SC :=
(.seq (.reg [⟨some 2, .alloc 33, none⟩,
   ⟨some 3, .assign (.const (.int .i64 0)), none⟩,
   ⟨some 4, .assign (.const (.bool false)), none⟩])
 (.seq (.reg [⟨some 8, .move (.tmp 0), none⟩,
    ⟨some 9, .build 75 ⟨[(0, (.tmp 8))]⟩, none⟩,
    ⟨some 10, .box 75 (.tmp 9), none⟩,
    ⟨some 5, .assign (.tmp 10), none⟩])
  (.seq (.reg [⟨some 11, .move (.tmp 5), none⟩,
     ⟨some 12, .call ⟨.value (.func 55), ⟨[(.tmp 11)]⟩, ⟨[72]⟩⟩, none⟩,
     ⟨some 6, .alloc 33, none⟩,
     ⟨none, .store 33 (.tmp 6) (.tmp 12), none⟩])
   (.seq (.reg [⟨some 13, .move (.tmp 5), none⟩,
      ⟨some 14, .fieldAddr 33 (.tmp 6) 1, none⟩,
      ⟨some 15, .load 9 (.tmp 14), none⟩,
      ⟨some 16, .call ⟨.builtin .len, ⟨[(.tmp 15)]⟩, ⟨[9]⟩⟩, none⟩,
      ⟨some 17, .binOp .add 3 (.tmp 16) (.const (.int .i64 3)) 3, none⟩,
      ⟨some 18, .call ⟨.value (.func 57), ⟨[(.tmp 13), (.tmp 17)]⟩, ⟨[72, 3]⟩⟩, none⟩,
      ⟨some 19, .binOp .sub 3 (.tmp 18) (.const (.int .i64 1)) 3, none⟩,
      ⟨some 7, .assign (.tmp 19), none⟩])
    (.seq (.regt (.op ⟨some 21, .move (.tmp 7), none⟩
      (.op ⟨some 22, .move (.tmp 5), none⟩
       (.br (.op ⟨some 20, .load 33 (.tmp 6), none⟩
         (.op ⟨some 23, .call ⟨.value (.func 56), ⟨[(.tmp 22), (.const (.int .i64 2))]⟩, ⟨[72, 3]⟩⟩, none⟩
          (.op ⟨none, .store 33 (.tmp 2) (.tmp 20), none⟩
           (.op ⟨some 3, .assign (.tmp 21), none⟩
            (.op ⟨some 4, .assign (.tmp 23), none⟩
            .done)))))
        (.op ⟨some 23, .call ⟨.value (.func 56), ⟨[(.tmp 22), (.const (.int .i64 2))]⟩, ⟨[72, 3]⟩⟩, none⟩
         (.op ⟨some 20, .load 33 (.tmp 6), none⟩
          (.op ⟨none, .store 33 (.tmp 2) (.tmp 20), none⟩
           (.op ⟨some 3, .assign (.tmp 21), none⟩
            (.op ⟨some 4, .assign (.tmp 23), none⟩
            .done)))))))))
     .ret)))))
theorem F26 : IsFun Tryd.prog 26 h26 s26 [.cell 2 33, .tmp 3, .tmp 4] 24 := ⟨_, Tryd.func26, by kernel_rfl, by kernel_rfl, by kernel_rfl, by kernel_rfl, by kernel_rfl⟩

/-- impl.CrashLog -/
def h27 : Hints := { trs := [], cps := [], refs := [27, 46] }
def s27 : SC :=
(.seq (.reg [⟨some 3, .box 33 (.tmp 0), none⟩,
   ⟨some 6, .assign (.const (.string ⟨⟨[]⟩⟩)), none⟩,
   ⟨some 7, .assign (.const (.bool false)), none⟩])
 (.seq (.seq (.reg [⟨some 9, .load 33 (.tmp 3), none⟩,
     ⟨some 10, .call ⟨.value (.func 19), ⟨[(.tmp 9)]⟩, ⟨[33]⟩⟩, none⟩,
     ⟨some 11, .unOp .not 4 (.tmp 10), none⟩,
     ⟨some 12, .move (.tmp 11), none⟩,
     ⟨some 13, .move (.tmp 1), some (12, false)⟩,
     ⟨some 14, .fieldAddr 33 (.tmp 3) 1, some (12, false)⟩,
     ⟨some 15, .load 9 (.tmp 14), some (12, false)⟩,
     ⟨some 16, .call ⟨.builtin .len, ⟨[(.tmp 15)]⟩, ⟨[9]⟩⟩, some (12, false)⟩,
     ⟨some 17, .call ⟨.value (.func 50), ⟨[(.tmp 13), (.const (.int .i64 0)), (.tmp 16)]⟩, ⟨[3, 3, 3]⟩⟩, some (12, false)⟩,
     ⟨some 18, .unOp .not 4 (.tmp 17), some (12, false)⟩,
     ⟨some 19, .pick (.tmp 12) (.const (.bool true)) (.tmp 18), none⟩])
   (.cond (.tmp 19)
    (.seq (.reg [⟨some 6, .assign (.const (.string ⟨⟨[]⟩⟩)), none⟩,
       ⟨some 7, .assign (.const (.bool false)), none⟩])
     .ret)
    .skip))
  (.seq (.reg [⟨some 20, .fieldAddr 33 (.tmp 3) 0, none⟩,
     ⟨some 21, .load 9 (.tmp 20), none⟩,
     ⟨some 22, .fieldAddr 33 (.tmp 3) 1, none⟩,
     ⟨some 23, .load 9 (.tmp 22), none⟩,
     ⟨some 24, .move (.tmp 1), none⟩,
     ⟨some 25, .slice 9 (.tmp 23) none (some (.tmp 24)) none, none⟩,
     ⟨some 26, .binOp .add 9 (.tmp 21) (.tmp 25) 9, none⟩,
     ⟨some 27, .convert 9 22 (.tmp 26), none⟩,
     ⟨some 8, .assign (.tmp 27), none⟩])
   (.seq (.seq (.reg [⟨some 28, .move (.tmp 2), none⟩,
       ⟨some 29, .move (.tmp 28), none⟩,
       ⟨some 30, .move (.tmp 1), some (29, true)⟩,
       ⟨some 31, .binOp .gtr 3 (.tmp 30) (.const (.int .i64 0)) 3, some (29, true)⟩,
       ⟨some 32, .pick (.tmp 29) (.tmp 31) (.const (.bool false)), none⟩])
     (.cond (.tmp 32)
      (.reg [⟨some 33, .move (.tmp 8), none⟩,
        ⟨some 34, .move (.tmp 8), none⟩,
        ⟨some 35, .call ⟨.builtin .len, ⟨[(.tmp 34)]⟩, ⟨[22]⟩⟩, none⟩,
        ⟨some 36, .binOp .sub 3 (.tmp 35) (.const (.int .i64 1)) 3, none⟩,
        ⟨some 37, .move (.tmp 8), none⟩,
        ⟨some 38, .move (.tmp 8), none⟩,
        ⟨some 39, .call ⟨.builtin .len, ⟨[(.tmp 38)]⟩, ⟨[22]⟩⟩, none⟩,
        ⟨some 40, .binOp .sub 3 (.tmp 39) (.const (.int .i64 1)) 3, none⟩,
        ⟨some 41, .indexAddr 22 (.tmp 37) (.tmp 40), none⟩,
        ⟨some 42, .load 5 (.tmp 41), none⟩,
        ⟨some 43, .binOp .sub 5 (.const (.int .u8 255)) (.tmp 42) 5, none⟩,
        ⟨some 44, .indexAddr 22 (.tmp 33) (.tmp 36), none⟩,
        ⟨none, .store 5 (.tmp 44) (.tmp 43), none⟩])
      .skip))
    (.seq (.reg [⟨some 45, .move (.tmp 8), none⟩,
       ⟨some 46, .convert 22 9 (.tmp 45), none⟩,
       ⟨some 6, .assign (.tmp 46), none⟩,
       ⟨some 7, .assign (.const (.bool true)), none⟩])
     .ret)))))
theorem F27 : IsFun Tryd.prog 27 h27 s27 [.tmp 6, .tmp 7] 47 := ⟨_, Tryd.func27, by kernel_rfl, by kernel_rfl, by kernel_rfl, by kernel_rfl, by kernel_rfl⟩

/-- spec.CrashLog -/
def h28 : Hints := { trs := [], cps := [], refs := [24, 43] }
def s28 : SC :=
(.seq (.reg [⟨some 3, .box 33 (.tmp 0), none⟩,
   ⟨some 6, .assign (.const (.string ⟨⟨[]⟩⟩)), none⟩,
   ⟨some 7, .assign (.const (.bool false)), none⟩])
 (.seq (.seq (.reg [⟨some 9, .load 33 (.tmp 3), none⟩,
     ⟨some 10, .call ⟨.value (.func 58), ⟨[(.tmp 9)]⟩, ⟨[33]⟩⟩, none⟩,
     ⟨some 11, .unOp .not 4 (.tmp 10), none⟩,
     ⟨some 12, .move (.tmp 11), none⟩,
     ⟨some 13, .move (.tmp 1), some (12, false)⟩,
     ⟨some 14, .fieldAddr 33 (.tmp 3) 1, some (12, false)⟩,
     ⟨some 15, .load 9 (.tmp 14), some (12, false)⟩,
     ⟨some 16, .call ⟨.builtin .len, ⟨[(.tmp 15)]⟩, ⟨[9]⟩⟩, some (12, false)⟩,
     ⟨some 17, .call ⟨.value (.func 52), ⟨[(.tmp 13), (.const (.int .i64 0)), (.tmp 16)]⟩, ⟨[3, 3, 3]⟩⟩, some (12, false)⟩,
     ⟨some 18, .unOp .not 4 (.tmp 17), some (12, false)⟩,
     ⟨some 19, .pick (.tmp 12) (.const (.bool true)) (.tmp 18), none⟩])
   (.cond (.tmp 19)
    (.seq (.reg [⟨some 6, .assign (.const (.string ⟨⟨[]⟩⟩)), none⟩,
       ⟨some 7, .assign (.const (.bool false)), none⟩])
     .ret)
    .skip))
  (.seq (.reg [⟨some 20, .fieldAddr 33 (.tmp 3) 1, none⟩,
     ⟨some 21, .load 9 (.tmp 20), none⟩,
     ⟨some 22, .move (.tmp 1), none⟩,
     ⟨some 23, .slice 9 (.tmp 21) none (some (.tmp 22)) none, none⟩,
     ⟨some 24, .convert 9 22 (.tmp 23), none⟩,
     ⟨some 8, .assign (.tmp 24), none⟩])
   (.seq (.seq (.reg [⟨some 25, .move (.tmp 2), none⟩,
       ⟨some 26, .move (.tmp 25), none⟩,
       ⟨some 27, .move (.tmp 1), some (26, true)⟩,
       ⟨some 28, .binOp .gtr 3 (.tmp 27) (.const (.int .i64 0)) 3, some (26, true)⟩,
       ⟨some 29, .pick (.tmp 26) (.tmp 28) (.const (.bool false)), none⟩])
     (.cond (.tmp 29)
      (.reg [⟨some 30, .move (.tmp 8), none⟩,
        ⟨some 31, .move (.tmp 1), none⟩,
        ⟨some 32, .binOp .sub 3 (.tmp 31) (.const (.int .i64 1)) 3, none⟩,
        ⟨some 33, .move (.tmp 8), none⟩,
        ⟨some 34, .move (.tmp 1), none⟩,
        ⟨some 35, .binOp .sub 3 (.tmp 34) (.const (.int .i64 1)) 3, none⟩,
        ⟨some 36, .indexAddr 22 (.tmp 33) (.tmp 35), none⟩,
        ⟨some 37, .load 5 (.tmp 36), none⟩,
        ⟨some 38, .binOp .sub 5 (.const (.int .u8 255)) (.tmp 37) 5, none⟩,
        ⟨some 39, .indexAddr 22 (.tmp 30) (.tmp 32), none⟩,
        ⟨none, .store 5 (.tmp 39) (.tmp 38), none⟩])
      .skip))
    (.seq (.reg [⟨some 40, .fieldAddr 33 (.tmp 3) 0, none⟩,
       ⟨some 41, .load 9 (.tmp 40), none⟩,
       ⟨some 42, .move (.tmp 8), none⟩,
       ⟨some 43, .convert 22 9 (.tmp 42), none⟩,
       ⟨some 44, .binOp .add 9 (.tmp 41) (.tmp 43) 9, none⟩,
       ⟨some 6, .assign (.tmp 44), none⟩,
       ⟨some 7, .assign (.const (.bool true)), none⟩])
     .ret)))))
theorem F28 : IsFun Tryd.prog 28 h28 s28 [.tmp 6, .tmp 7] 45 := ⟨_, Tryd.func28, by kernel_rfl, by kernel_rfl, by kernel_rfl, by kernel_rfl, by kernel_rfl⟩

/-- spec.DrawRecoverLog -/
def h29 : Hints := { trs := [], cps := [], refs := [], tree := true }
def s29 : SC :=
(.seq (.reg [⟨some 2, .assign (.const (.string ⟨⟨[]⟩⟩)), none⟩])
 (.seq (.reg [⟨some 6, .move (.tmp 0), none⟩,
    ⟨some 7, .build 75 ⟨[(0, (.tmp 6))]⟩, none⟩,
    ⟨some 8, .box 75 (.tmp 7), none⟩,
    ⟨some 3, .assign (.tmp 8), none⟩])
  (.seq (.reg [⟨some 9, .move (.tmp 3), none⟩,
     ⟨some 10, .call ⟨.value (.func 64), ⟨[(.tmp 9)]⟩, ⟨[72]⟩⟩, none⟩,
     ⟨some 4, .alloc 33, none⟩,
     ⟨none, .store 33 (.tmp 4) (.tmp 10), none⟩])
   (.seq (.reg [⟨some 11, .fieldAddr 33 (.tmp 4) 0, none⟩,
      ⟨some 12, .load 9 (.tmp 11), none⟩,
      ⟨some 13, .fieldAddr 33 (.tmp 4) 1, none⟩,
      ⟨some 14, .load 9 (.tmp 13), none⟩,
      ⟨some 15, .binOp .add 9 (.tmp 12) (.tmp 14) 9, none⟩,
      ⟨some 5, .assign (.tmp 15), none⟩])
    (.seq (.seq (.reg [⟨some 16, .move (.tmp 3), none⟩,
        ⟨some 17, .call ⟨.value (.func 57), ⟨[(.tmp 16), (.const (.int .i64 4))]⟩, ⟨[72, 3]⟩⟩, none⟩])
      (.block 0 (.seq (.reg [⟨some 19, .binOp .eql 3 (.tmp 17) (.const (.int .i64 0)) 3, none⟩,
          ⟨some 18, .assign (.tmp 19), none⟩])
        (.cond (.tmp 18)
         (.reg [⟨some 20, .move (.tmp 3), none⟩,
           ⟨some 21, .move (.tmp 5), none⟩,
           ⟨some 22, .call ⟨.value (.func 65), ⟨[(.tmp 20), (.tmp 21), (.const (.string ⟨⟨[35, 64, 10, 48, 49]⟩⟩))]⟩, ⟨[72, 9, 9]⟩⟩, none⟩,
           ⟨some 5, .assign (.tmp 22), none⟩])
         (.seq (.reg [⟨some 24, .binOp .eql 3 (.tmp 17) (.const (.int .i64 1)) 3, none⟩,
            ⟨some 23, .assign (.tmp 24), none⟩])
          (.cond (.tmp 23)
           (.reg [⟨some 25, .move (.tmp 5), none⟩,
             ⟨some 26, .move (.tmp 3), none⟩,
             ⟨some 27, .move (.tmp 5), none⟩,
             ⟨some 28, .call ⟨.builtin .len, ⟨[(.tmp 27)]⟩, ⟨[9]⟩⟩, none⟩,
             ⟨some 29, .binOp .add 3 (.tmp 28) (.const (.int .i64 1)) 3, none⟩,
             ⟨some 30, .call ⟨.value (.func 57), ⟨[(.tmp 26), (.tmp 29)]⟩, ⟨[72, 3]⟩⟩, none⟩,
             ⟨some 31, .slice 9 (.tmp 25) none (some (.tmp 30)) none, none⟩,
             ⟨some 5, .assign (.tmp 31), none⟩])
           (.seq (.reg [⟨some 33, .binOp .eql 3 (.tmp 17) (.const (.int .i64 2)) 3, none⟩,
             ⟨some 32, .assign (.tmp 33), none⟩])
            (.cond (.tmp 32)
            (.reg [⟨some 34, .move (.tmp 5), none⟩,
             ⟨some 35, .move (.tmp 3), none⟩,
             ⟨some 36, .call ⟨.value (.func 57), ⟨[(.tmp 35), (.const (.int .i64 4))]⟩, ⟨[72, 3]⟩⟩, none⟩,
             ⟨some 37, .move (.tmp 3), none⟩,
             ⟨some 38, .call ⟨.value (.func 48), ⟨[(.tmp 37)]⟩, ⟨[72]⟩⟩, none⟩,
             ⟨some 39, .call ⟨.value (.func 54), ⟨[(.tmp 36), (.tmp 38)]⟩, ⟨[3, 25]⟩⟩, none⟩,
             ⟨some 40, .binOp .add 9 (.tmp 34) (.tmp 39) 9, none⟩,
             ⟨some 5, .assign (.tmp 40), none⟩])
            .skip))))))))
     (.seq (.seq (.reg [⟨some 41, .move (.tmp 3), none⟩,
         ⟨some 42, .call ⟨.value (.func 56), ⟨[(.tmp 41), (.const (.int .i64 40))]⟩, ⟨[72, 3]⟩⟩, none⟩])
       (.cond (.tmp 42)
        (.reg [⟨some 43, .move (.tmp 3), none⟩,
          ⟨some 44, .call ⟨.value (.func 57), ⟨[(.tmp 43), (.const (.int .i64 2))]⟩, ⟨[72, 3]⟩⟩, none⟩,
          ⟨some 45, .binOp .add 3 (.const (.int .i64 30000)) (.tmp 44) 3, none⟩,
          ⟨some 46, .makeSlice 22 (.tmp 45) (.tmp 45), none⟩,
          ⟨some 47, .convert 22 9 (.tmp 46), none⟩,
          ⟨some 5, .assign (.tmp 47), none⟩])
        .skip))
      (.seq (.reg [⟨some 48, .move (.tmp 5), none⟩,
         ⟨some 2, .assign (.tmp 48), none⟩])
       .ret)))))))
theorem F29 : IsFun Tryd.prog 29 h29 s29 [.tmp 2] 49 := ⟨_, Tryd.func29, by kernel_rfl, by kernel_rfl, by kernel_rfl, by kernel_rfl, by kernel_rfl⟩

/-- impl.RecoverLog -/
def h30 : Hints := {}
def s30 : SC :=
(.seq (.reg [⟨some 2, .alloc 33, none⟩,
   ⟨some 3, .assign (.const (.int .i64 0)), none⟩,
   ⟨some 4, .assign (.const (.bool false)), none⟩])
 (.seq (.seq (.reg [⟨some 8, .move (.tmp 0), none⟩,
     ⟨some 9, .call ⟨.builtin .len, ⟨[(.tmp 8)]⟩, ⟨[9]⟩⟩, none⟩,
     ⟨some 10, .binOp .gtr 3 (.tmp 9) (.const (.int .i64 30000)) 3, none⟩])
   (.cond (.tmp 10)
    (.seq (.reg [⟨some 11, .build 33 ⟨[]⟩, none⟩,
       ⟨none, .store 33 (.tmp 2) (.tmp 11), none⟩,
       ⟨some 3, .assign (.const (.int .i64 0)), none⟩,
       ⟨some 4, .assign (.const (.bool false)), none⟩])
     .ret)
    .skip))
  (.seq (.reg [⟨some 13, .move (.tmp 0), none⟩,
     ⟨some 14, .call ⟨.value (.func 61), ⟨[(.tmp 13)]⟩, ⟨[9]⟩⟩, none⟩,
     ⟨some 12, .move (.tmp 14), none⟩,
     ⟨some 15, .extract (.tmp 12) 0, none⟩,
     ⟨some 16, .extract (.tmp 12) 1, none⟩,
     ⟨some 5, .assign (.tmp 15), none⟩,
     ⟨some 6, .assign (.tmp 16), none⟩])
   (.seq (.reg [⟨some 17, .move (.tmp 6), none⟩,
      ⟨some 18, .move (.tmp 6), none⟩,
      ⟨some 19, .call ⟨.builtin .len, ⟨[(.tmp 18)]⟩, ⟨[78]⟩⟩, none⟩,
      ⟨some 20, .binOp .sub 3 (.tmp 19) (.const (.int .i64 1)) 3, none⟩,
      ⟨some 21, .indexAddr 78 (.tmp 17) (.tmp 20), none⟩,
      ⟨some 22, .load 3 (.tmp 21), none⟩,
      ⟨some 7, .assign (.tmp 22), none⟩])
    (.seq (.reg [⟨some 23, .move (.tmp 0), none⟩,
       ⟨some 24, .move (.tmp 7), none⟩,
       ⟨some 25, .slice 9 (.tmp 23) none (some (.tmp 24)) none, none⟩,
       ⟨some 26, .move (.tmp 5), none⟩,
       ⟨some 27, .call ⟨.builtin .len, ⟨[(.tmp 26)]⟩, ⟨[43]⟩⟩, none⟩,
       ⟨some 28, .build 33 ⟨[(0, (.tmp 25)), (2, (.tmp 27))]⟩, none⟩,
       ⟨some 29, .move (.tmp 7), none⟩,
       ⟨none, .store 33 (.tmp 2) (.tmp 28), none⟩,
       ⟨some 3, .assign (.tmp 29), none⟩,
       ⟨some 4, .assign (.const (.bool true)), none⟩])
     .ret)))))
theorem F30 : IsFun Tryd.prog 30 h30 s30 [.cell 2 33, .tmp 3, .tmp 4] 30 := ⟨_, Tryd.func30, by kernel_rfl, by kernel_rfl, by kernel_rfl, by kernel_rfl, by kernel_rfl⟩

/-- spec.RecoverLog -/
def h31 : Hints := {}
def s31 : SC :=
(.seq (.reg [⟨some 2, .alloc 33, none⟩,
   ⟨some 3, .assign (.const (.int .i64 0)), none⟩,
   ⟨some 4, .assign (.const (.bool false)), none⟩])
 (.seq (.seq (.reg [⟨some 7, .move (.tmp 0), none⟩,
     ⟨some 8, .call ⟨.builtin .len, ⟨[(.tmp 7)]⟩, ⟨[9]⟩⟩, none⟩,
     ⟨some 9, .binOp .gtr 3 (.tmp 8) (.const (.int .i64 30000)) 3, none⟩])
   (.cond (.tmp 9)
    (.seq (.reg [⟨some 10, .build 33 ⟨[]⟩, none⟩,
       ⟨none, .store 33 (.tmp 2) (.tmp 10), none⟩,
       ⟨some 3, .assign (.const (.int .i64 0)), none⟩,
       ⟨some 4, .assign (.const (.bool false)), none⟩])
     .ret)
    .skip))
  (.seq (.reg [⟨some 12, .move (.tmp 0), none⟩,
     ⟨some 13, .call ⟨.value (.func 63), ⟨[(.tmp 12)]⟩, ⟨[9]⟩⟩, none⟩,
     ⟨some 11, .move (.tmp 13), none⟩,
     ⟨some 14, .extract (.tmp 11) 0, none⟩,
     ⟨some 15, .extract (.tmp 11) 1, none⟩,
     ⟨some 5, .assign (.tmp 14), none⟩,
     ⟨some 6, .assign (.tmp 15), none⟩])
   (.seq (.reg [⟨some 16, .move (.tmp 0), none⟩,
      ⟨some 17, .move (.tmp 6), none⟩,
      ⟨some 18, .slice 9 (.tmp 16) none (some (.tmp 17)) none, none⟩,
      ⟨some 19, .move (.tmp 5), none⟩,
      ⟨some 20, .call ⟨.builtin .len, ⟨[(.tmp 19)]⟩, ⟨[43]⟩⟩, none⟩,
      ⟨some 21, .build 33 ⟨[(0, (.tmp 18)), (2, (.tmp 20))]⟩, none⟩,
      ⟨some 22, .move (.tmp 6), none⟩,
      ⟨none, .store 33 (.tmp 2) (.tmp 21), none⟩,
      ⟨some 3, .assign (.tmp 22), none⟩,
      ⟨some 4, .assign (.const (.bool true)), none⟩])
    .ret))))
theorem F31 : IsFun Tryd.prog 31 h31 s31 [.cell 2 33, .tmp 3, .tmp 4] 23 := ⟨_, Tryd.func31, by kernel_rfl, by kernel_rfl, by kernel_rfl, by kernel_rfl, by kernel_rfl⟩

end Go.Proofs.YtgnebanjejmckaaDoor
