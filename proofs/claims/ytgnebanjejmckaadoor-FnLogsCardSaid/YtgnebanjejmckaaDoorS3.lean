/- The codes of the program's functions, as data: each is what the translation holds. -/
import Derived.Test.YtgnebanjejmckaaDoorProg
import Derived.Test.YtgnebanjejmckaaDoorDq
import Derived.KernelRfl
set_option maxRecDepth 100000
namespace Go.Proofs.YtgnebanjejmckaaDoor
open Go Dl

/-- spec.l1Read -/
def h77 : Hints := {}
def s77 : SC :=
(.seq (.reg [⟨some 2, .assign (.const (.int .i64 0)), none⟩,
   ⟨some 3, .assign (.const (.bool false)), none⟩])
 (.seq (.reg [⟨some 7, .move (.tmp 0), none⟩,
    ⟨some 4, .assign (.tmp 7), none⟩])
  (.seq (.seq (.reg [⟨some 8, .move (.tmp 4), none⟩,
      ⟨some 9, .call ⟨.builtin .len, ⟨[(.tmp 8)]⟩, ⟨[9]⟩⟩, none⟩,
      ⟨some 10, .binOp .gtr 3 (.tmp 9) (.const (.int .i64 1)) 3, none⟩,
      ⟨some 11, .move (.tmp 10), none⟩,
      ⟨some 12, .move (.tmp 4), some (11, true)⟩,
      ⟨some 13, .index 9 (.tmp 12) (.const (.int .i64 0)), some (11, true)⟩,
      ⟨some 14, .binOp .eql 5 (.tmp 13) (.const (.int .u8 45)) 5, some (11, true)⟩,
      ⟨some 15, .pick (.tmp 11) (.tmp 14) (.const (.bool false)), none⟩])
    (.cond (.tmp 15)
     (.reg [⟨some 16, .move (.tmp 4), none⟩,
       ⟨some 17, .slice 9 (.tmp 16) (some (.const (.int .i64 1))) none none, none⟩,
       ⟨some 4, .assign (.tmp 17), none⟩])
     .skip))
   (.seq (.seq (.reg [⟨some 18, .move (.tmp 4), none⟩,
       ⟨some 19, .call ⟨.builtin .len, ⟨[(.tmp 18)]⟩, ⟨[9]⟩⟩, none⟩,
       ⟨some 20, .call ⟨.value (.func 52), ⟨[(.tmp 19), (.const (.int .i64 1)), (.const (.int .i64 6))]⟩, ⟨[3, 3, 3]⟩⟩, none⟩,
       ⟨some 21, .unOp .not 4 (.tmp 20), none⟩])
     (.cond (.tmp 21)
      (.seq (.reg [⟨some 2, .assign (.const (.int .i64 0)), none⟩,
         ⟨some 3, .assign (.const (.bool false)), none⟩])
       .ret)
      .skip))
    (.seq (.reg [⟨some 5, .assign (.const (.int .i64 0)), none⟩])
     (.seq (.seq (.reg [⟨some 6, .assign (.const (.int .i64 0)), none⟩])
       (.block 0 (.loop (.seq (.seq (.reg [⟨some 22, .move (.tmp 6), none⟩,
             ⟨some 23, .move (.tmp 4), none⟩,
             ⟨some 24, .call ⟨.builtin .len, ⟨[(.tmp 23)]⟩, ⟨[9]⟩⟩, none⟩,
             ⟨some 25, .binOp .lss 3 (.tmp 22) (.tmp 24) 3, none⟩])
           (.cond (.tmp 25)
            .skip
            (.exit 0)))
          (.seq (.block 1 (.seq (.seq (.reg [⟨some 28, .move (.tmp 4), none⟩,
             ⟨some 29, .move (.tmp 6), none⟩,
             ⟨some 30, .index 9 (.tmp 28) (.tmp 29), none⟩,
             ⟨some 31, .binOp .lss 5 (.tmp 30) (.const (.int .u8 48)) 5, none⟩,
             ⟨some 32, .move (.tmp 31), none⟩,
             ⟨some 33, .move (.tmp 4), some (32, false)⟩,
             ⟨some 34, .move (.tmp 6), some (32, false)⟩,
             ⟨some 35, .index 9 (.tmp 33) (.tmp 34), some (32, false)⟩,
             ⟨some 36, .binOp .gtr 5 (.tmp 35) (.const (.int .u8 57)) 5, some (32, false)⟩,
             ⟨some 37, .pick (.tmp 32) (.const (.bool true)) (.tmp 36), none⟩])
            (.cond (.tmp 37)
            (.seq (.reg [⟨some 2, .assign (.const (.int .i64 0)), none⟩,
             ⟨some 3, .assign (.const (.bool false)), none⟩])
            .ret)
            .skip))
            (.reg [⟨some 38, .move (.tmp 5), none⟩,
             ⟨some 39, .binOp .mul 3 (.const (.int .i64 10)) (.tmp 38) 3, none⟩,
             ⟨some 40, .move (.tmp 4), none⟩,
             ⟨some 41, .move (.tmp 6), none⟩,
             ⟨some 42, .index 9 (.tmp 40) (.tmp 41), none⟩,
             ⟨some 43, .binOp .sub 5 (.tmp 42) (.const (.int .u8 48)) 5, none⟩,
             ⟨some 44, .convert 5 3 (.tmp 43), none⟩,
             ⟨some 45, .binOp .add 3 (.tmp 39) (.tmp 44) 3, none⟩,
             ⟨some 5, .assign (.tmp 45), none⟩])))
           (.reg [⟨some 26, .move (.tmp 6), none⟩,
             ⟨some 27, .binOp .add 3 (.tmp 26) (.const (.int .i64 1)) 3, none⟩,
             ⟨some 6, .assign (.tmp 27), none⟩]))))))
      (.seq (.seq (.reg [⟨some 46, .move (.tmp 4), none⟩,
          ⟨some 47, .call ⟨.builtin .len, ⟨[(.tmp 46)]⟩, ⟨[9]⟩⟩, none⟩,
          ⟨some 48, .move (.tmp 0), none⟩,
          ⟨some 49, .call ⟨.builtin .len, ⟨[(.tmp 48)]⟩, ⟨[9]⟩⟩, none⟩,
          ⟨some 50, .binOp .lss 3 (.tmp 47) (.tmp 49) 3, none⟩])
        (.cond (.tmp 50)
         (.reg [⟨some 51, .move (.tmp 5), none⟩,
           ⟨some 52, .unOp .neg 3 (.tmp 51), none⟩,
           ⟨some 5, .assign (.tmp 52), none⟩])
         .skip))
       (.seq (.seq (.reg [⟨some 53, .move (.tmp 5), none⟩,
           ⟨some 54, .call ⟨.value (.func 74), ⟨[(.tmp 53)]⟩, ⟨[3]⟩⟩, none⟩,
           ⟨some 55, .move (.tmp 0), none⟩,
           ⟨some 56, .binOp .neq 9 (.tmp 54) (.tmp 55) 9, none⟩])
         (.cond (.tmp 56)
          (.seq (.reg [⟨some 2, .assign (.const (.int .i64 0)), none⟩,
             ⟨some 3, .assign (.const (.bool false)), none⟩])
           .ret)
          .skip))
        (.seq (.reg [⟨some 57, .move (.tmp 5), none⟩,
           ⟨some 2, .assign (.tmp 57), none⟩,
           ⟨some 3, .assign (.const (.bool true)), none⟩])
         .ret)))))))))
theorem F77 : IsFun Tryd.prog 77 h77 s77 [.tmp 2, .tmp 3] 58 := ⟨_, Tryd.func77, by kernel_rfl, by kernel_rfl, by kernel_rfl, by kernel_rfl, by kernel_rfl⟩

/-- spec.ParseInt -/
def h42 : Hints := {}
def s42 : SC :=
(.seq (.reg [⟨some 2, .assign (.const (.int .i64 0)), none⟩,
   ⟨some 3, .assign (.const (.bool false)), none⟩])
 (.seq (.reg [⟨some 4, .move (.tmp 0), none⟩,
    ⟨some 5, .call ⟨.value (.func 77), ⟨[(.tmp 4)]⟩, ⟨[9]⟩⟩, none⟩,
    ⟨some 6, .extract (.tmp 5) 0, none⟩,
    ⟨some 7, .extract (.tmp 5) 1, none⟩,
    ⟨some 2, .assign (.tmp 6), none⟩,
    ⟨some 3, .assign (.tmp 7), none⟩])
  .ret))
theorem F42 : IsFun Tryd.prog 42 h42 s42 [.tmp 2, .tmp 3] 8 := ⟨_, Tryd.func42, by kernel_rfl, by kernel_rfl, by kernel_rfl, by kernel_rfl, by kernel_rfl⟩

/-- (*spec.l1Cur).any1 -/
def h78 : Hints := { trs := [], cps := [], refs := [], tree := true }
def s78 : SC :=
(.seq (.reg [⟨some 2, .assign (.const (.string ⟨⟨[]⟩⟩)), none⟩])
 (.seq (.reg [⟨some 3, .move (.tmp 0), none⟩,
    ⟨some 4, .buildSlice 101 9 ⟨[(0, (.const (.string ⟨⟨[]⟩⟩))), (1, (.const (.string ⟨⟨[97]⟩⟩))), (2, (.const (.string ⟨⟨[97, 44, 98]⟩⟩))), (3, (.const (.string ⟨⟨[115, 111, 109, 101, 32, 119, 111, 114, 100, 115]⟩⟩))), (4, (.const (.string ⟨⟨[120, 35, 121]⟩⟩))), (5, (.const (.string ⟨⟨[45, 49, 50]⟩⟩))), (6, (.const (.string ⟨⟨[0, 255]⟩⟩))), (7, (.const (.string ⟨⟨[44, 44]⟩⟩))), (8, (.const (.string ⟨⟨[48]⟩⟩)))]⟩, none⟩,
    ⟨some 5, .call ⟨.value (.func 75), ⟨[(.tmp 3), (.tmp 4)]⟩, ⟨[72, 101]⟩⟩, none⟩,
    ⟨some 2, .assign (.tmp 5), none⟩])
  .ret))
theorem F78 : IsFun Tryd.prog 78 h78 s78 [.tmp 2] 6 := ⟨_, Tryd.func78, by kernel_rfl, by kernel_rfl, by kernel_rfl, by kernel_rfl, by kernel_rfl⟩

/-- spec.DrawAppendChecksum -/
def h43 : Hints := { trs := [], cps := [], refs := [], tree := true }
def s43 : SC :=
(.seq (.reg [⟨some 2, .assign (.const (.string ⟨⟨[]⟩⟩)), none⟩])
 (.seq (.reg [⟨some 4, .move (.tmp 0), none⟩,
    ⟨some 5, .build 75 ⟨[(0, (.tmp 4))]⟩, none⟩,
    ⟨some 6, .box 75 (.tmp 5), none⟩,
    ⟨some 3, .assign (.tmp 6), none⟩])
  (.seq (.seq (.reg [⟨some 7, .move (.tmp 3), none⟩,
      ⟨some 8, .call ⟨.value (.func 56), ⟨[(.tmp 7), (.const (.int .i64 20))]⟩, ⟨[72, 3]⟩⟩, none⟩])
    (.cond (.tmp 8)
     (.seq (.reg [⟨some 9, .move (.tmp 3), none⟩,
        ⟨some 10, .call ⟨.value (.func 57), ⟨[(.tmp 9), (.const (.int .i64 10))]⟩, ⟨[72, 3]⟩⟩, none⟩,
        ⟨some 11, .binOp .add 3 (.const (.int .i64 3990)) (.tmp 10) 3, none⟩,
        ⟨some 12, .makeSlice 22 (.tmp 11) (.tmp 11), none⟩,
        ⟨some 13, .convert 22 9 (.tmp 12), none⟩,
        ⟨some 2, .assign (.tmp 13), none⟩])
      .ret)
     .skip))
   (.seq (.reg [⟨some 14, .move (.tmp 3), none⟩,
      ⟨some 15, .call ⟨.value (.func 78), ⟨[(.tmp 14)]⟩, ⟨[72]⟩⟩, none⟩,
      ⟨some 2, .assign (.tmp 15), none⟩])
    .ret))))
theorem F43 : IsFun Tryd.prog 43 h43 s43 [.tmp 2] 16 := ⟨_, Tryd.func43, by kernel_rfl, by kernel_rfl, by kernel_rfl, by kernel_rfl, by kernel_rfl⟩

/-- spec.AppendChecksum -/
def h45 : Hints := {}
def s45 : SC :=
(.seq (.reg [⟨some 2, .assign (.const (.string ⟨⟨[]⟩⟩)), none⟩,
   ⟨some 3, .assign (.const (.bool false)), none⟩])
 (.seq (.seq (.reg [⟨some 4, .move (.tmp 0), none⟩,
     ⟨some 5, .call ⟨.builtin .len, ⟨[(.tmp 4)]⟩, ⟨[9]⟩⟩, none⟩,
     ⟨some 6, .binOp .gtr 3 (.tmp 5) (.const (.int .i64 4000)) 3, none⟩,
     ⟨some 7, .move (.tmp 6), none⟩,
     ⟨some 8, .move (.tmp 0), some (7, false)⟩,
     ⟨some 9, .call ⟨.value (.func 81), ⟨[(.tmp 8), (.const (.int .u8 35))]⟩, ⟨[9, 5]⟩⟩, some (7, false)⟩,
     ⟨some 10, .pick (.tmp 7) (.const (.bool true)) (.tmp 9), none⟩,
     ⟨some 11, .move (.tmp 10), none⟩,
     ⟨some 12, .move (.tmp 0), some (11, false)⟩,
     ⟨some 13, .call ⟨.value (.func 82), ⟨[(.tmp 12)]⟩, ⟨[9]⟩⟩, some (11, false)⟩,
     ⟨some 14, .call ⟨.builtin .len, ⟨[(.tmp 13)]⟩, ⟨[9]⟩⟩, some (11, false)⟩,
     ⟨some 15, .binOp .gtr 3 (.tmp 14) (.const (.int .i64 4000)) 3, some (11, false)⟩,
     ⟨some 16, .pick (.tmp 11) (.const (.bool true)) (.tmp 15), none⟩])
   (.cond (.tmp 16)
    (.seq (.reg [⟨some 2, .assign (.const (.string ⟨⟨[]⟩⟩)), none⟩,
       ⟨some 3, .assign (.const (.bool false)), none⟩])
     .ret)
    .skip))
  (.seq (.reg [⟨some 17, .move (.tmp 0), none⟩,
     ⟨some 18, .call ⟨.value (.func 82), ⟨[(.tmp 17)]⟩, ⟨[9]⟩⟩, none⟩,
     ⟨some 2, .assign (.tmp 18), none⟩,
     ⟨some 3, .assign (.const (.bool true)), none⟩])
   .ret)))
theorem F45 : IsFun Tryd.prog 45 h45 s45 [.tmp 2, .tmp 3] 19 := ⟨_, Tryd.func45, by kernel_rfl, by kernel_rfl, by kernel_rfl, by kernel_rfl, by kernel_rfl⟩

/-- impl.VerifyChecksum -/
def h46 : Hints := {}
def s46 : SC :=
(.seq (.reg [⟨some 2, .assign (.const (.string ⟨⟨[]⟩⟩)), none⟩,
   ⟨some 3, .assign (.const (.bool false)), none⟩])
 (.seq (.reg [⟨some 10, .move (.tmp 0), none⟩,
    ⟨some 11, .call ⟨.value (.func 83), ⟨[(.tmp 10), (.const (.string ⟨⟨[35]⟩⟩))]⟩, ⟨[9, 9]⟩⟩, none⟩,
    ⟨some 9, .move (.tmp 11), none⟩,
    ⟨some 12, .extract (.tmp 9) 0, none⟩,
    ⟨some 13, .extract (.tmp 9) 1, none⟩,
    ⟨some 14, .extract (.tmp 9) 2, none⟩,
    ⟨some 4, .assign (.tmp 12), none⟩,
    ⟨some 5, .assign (.tmp 13), none⟩,
    ⟨some 6, .assign (.tmp 14), none⟩])
  (.seq (.seq (.reg [⟨some 16, .move (.tmp 4), none⟩,
      ⟨some 17, .call ⟨.value (.func 44), ⟨[(.tmp 16)]⟩, ⟨[9]⟩⟩, none⟩,
      ⟨some 15, .move (.tmp 17), none⟩,
      ⟨some 18, .extract (.tmp 15) 0, none⟩,
      ⟨some 19, .extract (.tmp 15) 1, none⟩,
      ⟨some 7, .assign (.tmp 18), none⟩,
      ⟨some 8, .assign (.tmp 19), none⟩])
    (.seq (.reg [⟨some 20, .move (.tmp 8), none⟩,
       ⟨some 21, .unOp .not 4 (.tmp 20), none⟩,
       ⟨some 22, .move (.tmp 21), none⟩,
       ⟨some 23, .move (.tmp 7), some (22, false)⟩,
       ⟨some 24, .move (.tmp 0), some (22, false)⟩,
       ⟨some 25, .binOp .neq 9 (.tmp 23) (.tmp 24) 9, some (22, false)⟩,
       ⟨some 26, .pick (.tmp 22) (.const (.bool true)) (.tmp 25), none⟩])
     (.cond (.tmp 26)
      (.seq (.reg [⟨some 2, .assign (.const (.string ⟨⟨[]⟩⟩)), none⟩,
         ⟨some 3, .assign (.const (.bool false)), none⟩])
       .ret)
      .skip)))
   (.seq (.reg [⟨some 27, .move (.tmp 4), none⟩,
      ⟨some 2, .assign (.tmp 27), none⟩,
      ⟨some 3, .assign (.const (.bool true)), none⟩])
    .ret))))
theorem F46 : IsFun Tryd.prog 46 h46 s46 [.tmp 2, .tmp 3] 28 := ⟨_, Tryd.func46, by kernel_rfl, by kernel_rfl, by kernel_rfl, by kernel_rfl, by kernel_rfl⟩

/-- laws.vAt -/
def h47 : Hints := {}
def s47 : SC :=
(.seq (.reg [⟨some 4, .assign (.const (.int .i64 0)), none⟩])
 (.seq (.seq (.reg [⟨some 5, .move (.tmp 1), none⟩,
     ⟨some 6, .move (.tmp 0), none⟩,
     ⟨some 7, .call ⟨.builtin .len, ⟨[(.tmp 6)]⟩, ⟨[22]⟩⟩, none⟩,
     ⟨some 8, .binOp .lss 3 (.tmp 5) (.tmp 7) 3, none⟩])
   (.cond (.tmp 8)
    (.seq (.reg [⟨some 9, .move (.tmp 0), none⟩,
       ⟨some 10, .move (.tmp 1), none⟩,
       ⟨some 11, .indexAddr 22 (.tmp 9) (.tmp 10), none⟩,
       ⟨some 12, .load 5 (.tmp 11), none⟩,
       ⟨some 13, .convert 5 3 (.tmp 12), none⟩,
       ⟨some 4, .assign (.tmp 13), none⟩])
     .ret)
    .skip))
  (.seq (.reg [⟨some 14, .move (.tmp 1), none⟩,
     ⟨some 15, .binOp .mul 3 (.tmp 14) (.const (.int .i64 7)) 3, none⟩,
     ⟨some 16, .move (.tmp 0), none⟩,
     ⟨some 17, .call ⟨.builtin .len, ⟨[(.tmp 16)]⟩, ⟨[22]⟩⟩, none⟩,
     ⟨some 18, .binOp .add 3 (.tmp 15) (.tmp 17) 3, none⟩,
     ⟨some 19, .binOp .rem 3 (.tmp 18) (.const (.int .i64 256)) 3, none⟩,
     ⟨some 4, .assign (.tmp 19), none⟩])
   .ret)))
theorem F47 : IsFun Tryd.prog 47 h47 s47 [.tmp 4] 20 := ⟨_, Tryd.func47, by kernel_rfl, by kernel_rfl, by kernel_rfl, by kernel_rfl, by kernel_rfl⟩

/-- laws.FnStrings -/
def h6 : Hints := { trs := [], cps := [], refs := [117, 138] }
def s6 : SC :=
(.seq (.reg [⟨some 2, .assign (.const (.bool false)), none⟩])
 (.seq (.seq (.reg [⟨some 26, .move (.tmp 0), none⟩,
     ⟨some 27, .call ⟨.value (.func 7), ⟨[(.tmp 26)]⟩, ⟨[22]⟩⟩, none⟩])
   (.cond (.tmp 27)
    (.seq (.reg [⟨some 2, .assign (.const (.bool true)), none⟩])
     .ret)
    .skip))
  (.seq (.reg [⟨some 28, .move (.tmp 0), none⟩,
     ⟨some 29, .call ⟨.value (.func 37), ⟨[(.tmp 28)]⟩, ⟨[22]⟩⟩, none⟩,
     ⟨some 3, .assign (.tmp 29), none⟩])
   (.seq (.reg [⟨some 31, .move (.tmp 3), none⟩,
      ⟨some 32, .call ⟨.value (.func 38), ⟨[(.tmp 31)]⟩, ⟨[3]⟩⟩, none⟩,
      ⟨some 30, .move (.tmp 32), none⟩,
      ⟨some 33, .extract (.tmp 30) 0, none⟩,
      ⟨some 34, .extract (.tmp 30) 1, none⟩,
      ⟨some 4, .assign (.tmp 33), none⟩,
      ⟨some 5, .assign (.tmp 34), none⟩])
    (.seq (.reg [⟨some 36, .move (.tmp 3), none⟩,
       ⟨some 37, .call ⟨.value (.func 39), ⟨[(.tmp 36)]⟩, ⟨[3]⟩⟩, none⟩,
       ⟨some 35, .move (.tmp 37), none⟩,
       ⟨some 38, .extract (.tmp 35) 0, none⟩,
       ⟨some 39, .extract (.tmp 35) 1, none⟩,
       ⟨some 6, .assign (.tmp 38), none⟩,
       ⟨some 7, .assign (.tmp 39), none⟩])
     (.seq (.reg [⟨some 40, .move (.tmp 0), none⟩,
        ⟨some 41, .call ⟨.value (.func 40), ⟨[(.tmp 40)]⟩, ⟨[22]⟩⟩, none⟩,
        ⟨some 8, .assign (.tmp 41), none⟩])
      (.seq (.reg [⟨some 43, .move (.tmp 8), none⟩,
         ⟨some 44, .call ⟨.value (.func 41), ⟨[(.tmp 43)]⟩, ⟨[9]⟩⟩, none⟩,
         ⟨some 42, .move (.tmp 44), none⟩,
         ⟨some 45, .extract (.tmp 42) 0, none⟩,
         ⟨some 46, .extract (.tmp 42) 1, none⟩,
         ⟨some 9, .assign (.tmp 45), none⟩,
         ⟨some 10, .assign (.tmp 46), none⟩])
       (.seq (.reg [⟨some 48, .move (.tmp 8), none⟩,
          ⟨some 49, .call ⟨.value (.func 42), ⟨[(.tmp 48)]⟩, ⟨[9]⟩⟩, none⟩,
          ⟨some 47, .move (.tmp 49), none⟩,
          ⟨some 50, .extract (.tmp 47) 0, none⟩,
          ⟨some 51, .extract (.tmp 47) 1, none⟩,
          ⟨some 11, .assign (.tmp 50), none⟩,
          ⟨some 12, .assign (.tmp 51), none⟩])
        (.seq (.reg [⟨some 52, .move (.tmp 0), none⟩,
           ⟨some 53, .call ⟨.value (.func 43), ⟨[(.tmp 52)]⟩, ⟨[22]⟩⟩, none⟩,
           ⟨some 13, .assign (.tmp 53), none⟩])
         (.seq (.reg [⟨some 55, .move (.tmp 13), none⟩,
            ⟨some 56, .call ⟨.value (.func 44), ⟨[(.tmp 55)]⟩, ⟨[9]⟩⟩, none⟩,
            ⟨some 54, .move (.tmp 56), none⟩,
            ⟨some 57, .extract (.tmp 54) 0, none⟩,
            ⟨some 58, .extract (.tmp 54) 1, none⟩,
            ⟨some 14, .assign (.tmp 57), none⟩,
            ⟨some 15, .assign (.tmp 58), none⟩])
          (.seq (.reg [⟨some 60, .move (.tmp 13), none⟩,
             ⟨some 61, .call ⟨.value (.func 45), ⟨[(.tmp 60)]⟩, ⟨[9]⟩⟩, none⟩,
             ⟨some 59, .move (.tmp 61), none⟩,
             ⟨some 62, .extract (.tmp 59) 0, none⟩,
             ⟨some 63, .extract (.tmp 59) 1, none⟩,
             ⟨some 16, .assign (.tmp 62), none⟩,
             ⟨some 17, .assign (.tmp 63), none⟩])
           (.seq (.seq (.reg [⟨some 64, .move (.tmp 4), none⟩,
             ⟨some 65, .move (.tmp 6), none⟩,
             ⟨some 66, .binOp .neq 9 (.tmp 64) (.tmp 65) 9, none⟩,
             ⟨some 67, .move (.tmp 66), none⟩,
             ⟨some 68, .move (.tmp 5), some (67, false)⟩,
             ⟨some 69, .move (.tmp 7), some (67, false)⟩,
             ⟨some 70, .binOp .neq 4 (.tmp 68) (.tmp 69) 4, some (67, false)⟩,
             ⟨some 71, .pick (.tmp 67) (.const (.bool true)) (.tmp 70), none⟩,
             ⟨some 72, .move (.tmp 71), none⟩,
             ⟨some 73, .move (.tmp 9), some (72, false)⟩,
             ⟨some 74, .move (.tmp 11), some (72, false)⟩,
             ⟨some 75, .binOp .neq 3 (.tmp 73) (.tmp 74) 3, some (72, false)⟩,
             ⟨some 76, .pick (.tmp 72) (.const (.bool true)) (.tmp 75), none⟩,
             ⟨some 77, .move (.tmp 76), none⟩,
             ⟨some 78, .move (.tmp 10), some (77, false)⟩,
             ⟨some 79, .move (.tmp 12), some (77, false)⟩,
             ⟨some 80, .binOp .neq 4 (.tmp 78) (.tmp 79) 4, some (77, false)⟩,
             ⟨some 81, .pick (.tmp 77) (.const (.bool true)) (.tmp 80), none⟩,
             ⟨some 82, .move (.tmp 81), none⟩,
             ⟨some 83, .move (.tmp 14), some (82, false)⟩,
             ⟨some 84, .move (.tmp 16), some (82, false)⟩,
             ⟨some 85, .binOp .neq 9 (.tmp 83) (.tmp 84) 9, some (82, false)⟩,
             ⟨some 86, .pick (.tmp 82) (.const (.bool true)) (.tmp 85), none⟩,
             ⟨some 87, .move (.tmp 86), none⟩,
             ⟨some 88, .move (.tmp 15), some (87, false)⟩,
             ⟨some 89, .move (.tmp 17), some (87, false)⟩,
             ⟨some 90, .binOp .neq 4 (.tmp 88) (.tmp 89) 4, some (87, false)⟩,
             ⟨some 91, .pick (.tmp 87) (.const (.bool true)) (.tmp 90), none⟩])
            (.cond (.tmp 91)
            (.seq (.reg [⟨some 2, .assign (.const (.bool false)), none⟩])
            .ret)
            .skip))
            (.seq (.seq (.reg [⟨some 93, .move (.tmp 4), none⟩,
             ⟨some 94, .call ⟨.value (.func 41), ⟨[(.tmp 93)]⟩, ⟨[9]⟩⟩, none⟩,
             ⟨some 92, .move (.tmp 94), none⟩,
             ⟨some 95, .extract (.tmp 92) 0, none⟩,
             ⟨some 96, .extract (.tmp 92) 1, none⟩,
             ⟨some 18, .assign (.tmp 95), none⟩,
             ⟨some 19, .assign (.tmp 96), none⟩])
            (.seq (.reg [⟨some 97, .move (.tmp 5), none⟩,
             ⟨some 98, .move (.tmp 97), none⟩,
             ⟨some 99, .move (.tmp 19), some (98, true)⟩,
             ⟨some 100, .unOp .not 4 (.tmp 99), some (98, true)⟩,
             ⟨some 101, .move (.tmp 100), some (98, true)⟩,
             ⟨some 102, .move (.tmp 18), some (101, false)⟩,
             ⟨some 103, .move (.tmp 3), some (101, false)⟩,
             ⟨some 104, .binOp .neq 3 (.tmp 102) (.tmp 103) 3, some (101, false)⟩,
             ⟨some 105, .pick (.tmp 101) (.const (.bool true)) (.tmp 104), some (98, true)⟩,
             ⟨some 106, .pick (.tmp 98) (.tmp 105) (.const (.bool false)), none⟩])
            (.cond (.tmp 106)
            (.seq (.reg [⟨some 2, .assign (.const (.bool false)), none⟩])
            .ret)
            .skip)))
            (.seq (.seq (.reg [⟨some 107, .move (.tmp 15), none⟩,
             ⟨some 108, .unOp .not 4 (.tmp 107), none⟩])
            (.cond (.tmp 108)
            (.seq (.reg [⟨some 109, .move (.tmp 14), none⟩,
             ⟨some 110, .binOp .eql 9 (.tmp 109) (.const (.string ⟨⟨[]⟩⟩)) 9, none⟩,
             ⟨some 2, .assign (.tmp 110), none⟩])
            .ret)
            .skip))
            (.seq (.reg [⟨some 112, .move (.tmp 14), none⟩,
             ⟨some 113, .call ⟨.value (.func 46), ⟨[(.tmp 112)]⟩, ⟨[9]⟩⟩, none⟩,
             ⟨some 111, .move (.tmp 113), none⟩,
             ⟨some 114, .extract (.tmp 111) 0, none⟩,
             ⟨some 115, .extract (.tmp 111) 1, none⟩,
             ⟨some 20, .assign (.tmp 114), none⟩,
             ⟨some 21, .assign (.tmp 115), none⟩])
            (.seq (.reg [⟨some 116, .move (.tmp 14), none⟩,
             ⟨some 117, .convert 9 22 (.tmp 116), none⟩,
             ⟨some 22, .assign (.tmp 117), none⟩])
            (.seq (.reg [⟨some 118, .move (.tmp 0), none⟩,
             ⟨some 119, .call ⟨.value (.func 47), ⟨[(.tmp 118), (.const (.int .i64 9))]⟩, ⟨[22, 3]⟩⟩, none⟩,
             ⟨some 120, .move (.tmp 22), none⟩,
             ⟨some 121, .call ⟨.builtin .len, ⟨[(.tmp 120)]⟩, ⟨[22]⟩⟩, none⟩,
             ⟨some 122, .binOp .rem 3 (.tmp 119) (.tmp 121) 3, none⟩,
             ⟨some 23, .assign (.tmp 122), none⟩])
            (.seq (.regp [⟨some 123, .move (.tmp 22), none⟩,
             ⟨some 124, .move (.tmp 23), none⟩,
             ⟨some 125, .move (.tmp 22), none⟩,
             ⟨some 126, .move (.tmp 23), none⟩,
             ⟨some 127, .indexAddr 22 (.tmp 125) (.tmp 126), none⟩,
             ⟨some 128, .load 5 (.tmp 127), none⟩,
             ⟨some 129, .move (.tmp 0), none⟩,
             ⟨some 130, .call ⟨.value (.func 47), ⟨[(.tmp 129), (.const (.int .i64 10))]⟩, ⟨[22, 3]⟩⟩, none⟩,
             ⟨some 131, .binOp .rem 3 (.tmp 130) (.const (.int .i64 255)) 3, none⟩,
             ⟨some 132, .binOp .add 3 (.const (.int .i64 1)) (.tmp 131) 3, none⟩,
             ⟨some 133, .convert 3 5 (.tmp 132), none⟩,
             ⟨some 134, .binOp .xor 5 (.tmp 128) (.tmp 133) 5, none⟩,
             ⟨some 135, .indexAddr 22 (.tmp 123) (.tmp 124), none⟩,
             ⟨none, .store 5 (.tmp 135) (.tmp 134), none⟩])
            (.seq (.reg [⟨some 137, .move (.tmp 22), none⟩,
             ⟨some 138, .convert 22 9 (.tmp 137), none⟩,
             ⟨some 139, .call ⟨.value (.func 46), ⟨[(.tmp 138)]⟩, ⟨[9]⟩⟩, none⟩,
             ⟨some 136, .move (.tmp 139), none⟩,
             ⟨some 140, .extract (.tmp 136) 0, none⟩,
             ⟨some 141, .extract (.tmp 136) 1, none⟩,
             ⟨some 24, .assign (.tmp 140), none⟩,
             ⟨some 25, .assign (.tmp 141), none⟩])
            (.seq (.reg [⟨some 142, .move (.tmp 21), none⟩,
             ⟨some 143, .move (.tmp 142), none⟩,
             ⟨some 144, .move (.tmp 20), some (143, true)⟩,
             ⟨some 145, .move (.tmp 13), some (143, true)⟩,
             ⟨some 146, .binOp .eql 9 (.tmp 144) (.tmp 145) 9, some (143, true)⟩,
             ⟨some 147, .pick (.tmp 143) (.tmp 146) (.const (.bool false)), none⟩,
             ⟨some 148, .move (.tmp 147), none⟩,
             ⟨some 149, .move (.tmp 25), some (148, true)⟩,
             ⟨some 150, .unOp .not 4 (.tmp 149), some (148, true)⟩,
             ⟨some 151, .pick (.tmp 148) (.tmp 150) (.const (.bool false)), none⟩,
             ⟨some 2, .assign (.tmp 151), none⟩])
            .ret))))))))))))))))))))
theorem F6 : IsFun Tryd.prog 6 h6 s6 [.tmp 2] 152 := ⟨_, Tryd.func6, by kernel_rfl, by kernel_rfl, by kernel_rfl, by kernel_rfl, by kernel_rfl⟩

end Go.Proofs.YtgnebanjejmckaaDoor
