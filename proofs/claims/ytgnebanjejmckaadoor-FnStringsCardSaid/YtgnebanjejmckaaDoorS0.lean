/- The codes of the program's functions, as data: each is what the translation holds. -/
import Derived.Test.YtgnebanjejmckaaDoorProg
import Derived.Test.YtgnebanjejmckaaDoorDq
import Derived.KernelRfl
set_option maxRecDepth 100000
namespace Go.Proofs.YtgnebanjejmckaaDoor
open Go Dl

/-- impl.allWithin$1 -/
def h132 : Hints := {}
def s132 : SC :=
(.seq (.reg [⟨some 4, .assign (.const (.bool false)), none⟩])
 (.seq (.reg [⟨some 5, .move (.tmp 0), none⟩,
    ⟨some 6, .load 3 (.tmp 1), none⟩,
    ⟨some 7, .load 3 (.tmp 2), none⟩,
    ⟨some 8, .call ⟨.value (.func 50), ⟨[(.tmp 5), (.tmp 6), (.tmp 7)]⟩, ⟨[3, 3, 3]⟩⟩, none⟩,
    ⟨some 9, .unOp .not 4 (.tmp 8), none⟩,
    ⟨some 4, .assign (.tmp 9), none⟩])
  .ret))
theorem F132 : IsFun Tryd.prog 132 h132 s132 [.tmp 4] 10 := ⟨_, Tryd.func132, by kernel_rfl, by kernel_rfl, by kernel_rfl, by kernel_rfl, by kernel_rfl⟩

/-- laws.vBig -/
def h7 : Hints := {}
def s7 : SC :=
(.seq (.reg [⟨some 2, .assign (.const (.bool false)), none⟩])
 (.seq (.reg [⟨some 3, .move (.tmp 0), none⟩,
    ⟨some 4, .call ⟨.builtin .len, ⟨[(.tmp 3)]⟩, ⟨[22]⟩⟩, none⟩,
    ⟨some 5, .binOp .gtr 3 (.tmp 4) (.const (.int .i64 65536)) 3, none⟩,
    ⟨some 2, .assign (.tmp 5), none⟩])
  .ret))
theorem F7 : IsFun Tryd.prog 7 h7 s7 [.tmp 2] 6 := ⟨_, Tryd.func7, by kernel_rfl, by kernel_rfl, by kernel_rfl, by kernel_rfl, by kernel_rfl⟩

/-- (*spec.l1Cur).next -/
def h86 : Hints := { trs := [], cps := [3], refs := [], tree := true }
def s86 : SC :=
(.seq (.reg [⟨some 2, .assign (.const (.int .i64 0)), none⟩])
 (.seq (.reg [⟨some 3, .assign (.const (.int .i64 0)), none⟩])
  (.seq (.seq (.reg [⟨some 4, .move (.tmp 0), none⟩,
      ⟨some 5, .nilCheck (.tmp 4), none⟩,
      ⟨some 6, .fieldAddr 75 (.tmp 5) 1, none⟩,
      ⟨some 7, .load 3 (.tmp 6), none⟩,
      ⟨some 8, .move (.tmp 0), none⟩,
      ⟨some 9, .nilCheck (.tmp 8), none⟩,
      ⟨some 10, .fieldAddr 75 (.tmp 9) 0, none⟩,
      ⟨some 11, .load 22 (.tmp 10), none⟩,
      ⟨some 12, .call ⟨.builtin .len, ⟨[(.tmp 11)]⟩, ⟨[22]⟩⟩, none⟩,
      ⟨some 13, .binOp .lss 3 (.tmp 7) (.tmp 12) 3, none⟩])
    (.cond (.tmp 13)
     (.reg [⟨some 14, .move (.tmp 0), none⟩,
       ⟨some 15, .nilCheck (.tmp 14), none⟩,
       ⟨some 16, .fieldAddr 75 (.tmp 15) 0, none⟩,
       ⟨some 17, .load 22 (.tmp 16), none⟩,
       ⟨some 18, .move (.tmp 0), none⟩,
       ⟨some 19, .nilCheck (.tmp 18), none⟩,
       ⟨some 20, .fieldAddr 75 (.tmp 19) 1, none⟩,
       ⟨some 21, .load 3 (.tmp 20), none⟩,
       ⟨some 22, .indexAddr 22 (.tmp 17) (.tmp 21), none⟩,
       ⟨some 23, .load 5 (.tmp 22), none⟩,
       ⟨some 24, .convert 5 3 (.tmp 23), none⟩,
       ⟨some 3, .assign (.tmp 24), none⟩])
     .skip))
   (.seq (.reg [⟨some 25, .move (.tmp 0), none⟩,
      ⟨some 26, .nilCheck (.tmp 25), none⟩,
      ⟨some 27, .fieldAddr 75 (.tmp 26) 1, none⟩,
      ⟨some 28, .load 3 (.tmp 27), none⟩,
      ⟨some 29, .binOp .add 3 (.tmp 28) (.const (.int .i64 1)) 3, none⟩,
      ⟨some 30, .nilCheck (.tmp 25), none⟩,
      ⟨some 31, .fieldAddr 75 (.tmp 30) 1, none⟩,
      ⟨none, .store 3 (.tmp 31) (.tmp 29), none⟩])
    (.seq (.reg [⟨some 32, .move (.tmp 0), none⟩,
       ⟨some 33, .move (.tmp 0), none⟩,
       ⟨some 34, .nilCheck (.tmp 33), none⟩,
       ⟨some 35, .fieldAddr 75 (.tmp 34) 2, none⟩,
       ⟨some 36, .load 73 (.tmp 35), none⟩,
       ⟨some 37, .binOp .mul 73 (.tmp 36) (.const (.int .u64 6364136223846793005)) 73, none⟩,
       ⟨some 38, .move (.tmp 3), none⟩,
       ⟨some 39, .convert 3 73 (.tmp 38), none⟩,
       ⟨some 40, .binOp .add 73 (.tmp 37) (.tmp 39) 73, none⟩,
       ⟨some 41, .binOp .add 73 (.tmp 40) (.const (.int .u64 462197)) 73, none⟩,
       ⟨some 42, .nilCheck (.tmp 32), none⟩,
       ⟨some 43, .fieldAddr 75 (.tmp 42) 2, none⟩,
       ⟨none, .store 73 (.tmp 43) (.tmp 41), none⟩])
     (.seq (.seq (.reg [⟨some 44, .move (.tmp 0), none⟩,
         ⟨some 45, .nilCheck (.tmp 44), none⟩,
         ⟨some 46, .fieldAddr 75 (.tmp 45) 1, none⟩,
         ⟨some 47, .load 3 (.tmp 46), none⟩,
         ⟨some 48, .move (.tmp 0), none⟩,
         ⟨some 49, .nilCheck (.tmp 48), none⟩,
         ⟨some 50, .fieldAddr 75 (.tmp 49) 0, none⟩,
         ⟨some 51, .load 22 (.tmp 50), none⟩,
         ⟨some 52, .call ⟨.builtin .len, ⟨[(.tmp 51)]⟩, ⟨[22]⟩⟩, none⟩,
         ⟨some 53, .binOp .leq 3 (.tmp 47) (.tmp 52) 3, none⟩])
       (.cond (.tmp 53)
        (.seq (.reg [⟨some 54, .move (.tmp 3), none⟩,
           ⟨some 2, .assign (.tmp 54), none⟩])
         .ret)
        .skip))
      (.seq (.reg [⟨some 55, .move (.tmp 0), none⟩,
         ⟨some 56, .nilCheck (.tmp 55), none⟩,
         ⟨some 57, .fieldAddr 75 (.tmp 56) 2, none⟩,
         ⟨some 58, .load 73 (.tmp 57), none⟩,
         ⟨some 59, .binOp .shr 73 (.tmp 58) (.const (.int .u64 40)) 125, none⟩,
         ⟨some 60, .binOp .and 73 (.tmp 59) (.const (.int .u64 255)) 73, none⟩,
         ⟨some 61, .convert 73 3 (.tmp 60), none⟩,
         ⟨some 2, .assign (.tmp 61), none⟩])
       .ret)))))))
theorem F86 : IsFun Tryd.prog 86 h86 s86 [.tmp 2] 62 := ⟨_, Tryd.func86, by kernel_rfl, by kernel_rfl, by kernel_rfl, by kernel_rfl, by kernel_rfl⟩

/-- (*spec.l1Cur).pick -/
def h57 : Hints := { trs := [], cps := [], refs := [], tree := true }
def s57 : SC :=
(.seq (.reg [⟨some 4, .assign (.const (.int .i64 0)), none⟩])
 (.seq (.seq (.reg [⟨some 6, .move (.tmp 1), none⟩,
     ⟨some 7, .binOp .leq 3 (.tmp 6) (.const (.int .i64 1)) 3, none⟩])
   (.cond (.tmp 7)
    (.seq (.reg [⟨some 4, .assign (.const (.int .i64 0)), none⟩])
     .ret)
    .skip))
  (.seq (.reg [⟨some 8, .move (.tmp 0), none⟩,
     ⟨some 9, .call ⟨.value (.func 86), ⟨[(.tmp 8)]⟩, ⟨[72]⟩⟩, none⟩,
     ⟨some 5, .assign (.tmp 9), none⟩])
   (.seq (.seq (.reg [⟨some 10, .move (.tmp 1), none⟩,
       ⟨some 11, .binOp .gtr 3 (.tmp 10) (.const (.int .i64 200)) 3, none⟩])
     (.cond (.tmp 11)
      (.reg [⟨some 12, .move (.tmp 5), none⟩,
        ⟨some 13, .binOp .mul 3 (.tmp 12) (.const (.int .i64 256)) 3, none⟩,
        ⟨some 14, .move (.tmp 0), none⟩,
        ⟨some 15, .call ⟨.value (.func 86), ⟨[(.tmp 14)]⟩, ⟨[72]⟩⟩, none⟩,
        ⟨some 16, .binOp .add 3 (.tmp 13) (.tmp 15) 3, none⟩,
        ⟨some 5, .assign (.tmp 16), none⟩])
      .skip))
    (.seq (.reg [⟨some 17, .move (.tmp 5), none⟩,
       ⟨some 18, .move (.tmp 1), none⟩,
       ⟨some 19, .binOp .rem 3 (.tmp 17) (.tmp 18) 3, none⟩,
       ⟨some 4, .assign (.tmp 19), none⟩])
     .ret)))))
theorem F57 : IsFun Tryd.prog 57 h57 s57 [.tmp 4] 20 := ⟨_, Tryd.func57, by kernel_rfl, by kernel_rfl, by kernel_rfl, by kernel_rfl, by kernel_rfl⟩

/-- (*spec.l1Cur).of -/
def h75 : Hints := { trs := [], cps := [], refs := [], tree := true }
def s75 : SC :=
(.seq (.reg [⟨some 4, .assign (.const (.string ⟨⟨[]⟩⟩)), none⟩])
 (.seq (.reg [⟨some 5, .move (.tmp 1), none⟩,
    ⟨some 6, .move (.tmp 0), none⟩,
    ⟨some 7, .move (.tmp 1), none⟩,
    ⟨some 8, .call ⟨.builtin .len, ⟨[(.tmp 7)]⟩, ⟨[101]⟩⟩, none⟩,
    ⟨some 9, .call ⟨.value (.func 57), ⟨[(.tmp 6), (.tmp 8)]⟩, ⟨[72, 3]⟩⟩, none⟩,
    ⟨some 10, .indexAddr 101 (.tmp 5) (.tmp 9), none⟩,
    ⟨some 11, .load 9 (.tmp 10), none⟩,
    ⟨some 4, .assign (.tmp 11), none⟩])
  .ret))
theorem F75 : IsFun Tryd.prog 75 h75 s75 [.tmp 4] 12 := ⟨_, Tryd.func75, by kernel_rfl, by kernel_rfl, by kernel_rfl, by kernel_rfl, by kernel_rfl⟩

/-- (*spec.l1Cur).logRecord -/
def h48 : Hints := { trs := [], cps := [], refs := [], tree := true }
def s48 : SC :=
(.seq (.reg [⟨some 2, .alloc 25, none⟩])
 (.seq (.reg [⟨some 4, .move (.tmp 0), none⟩,
    ⟨some 5, .buildSlice 101 5 ⟨[(0, (.const (.string ⟨⟨[108, 105, 110, 101, 115]⟩⟩))), (1, (.const (.string ⟨⟨[112, 117, 116, 32, 52, 48]⟩⟩))), (2, (.const (.string ⟨⟨[120]⟩⟩))), (3, (.const (.string ⟨⟨[116, 97, 107, 101, 32, 48, 32, 49, 32, 50]⟩⟩))), (4, (.const (.string ⟨⟨[48, 32, 49]⟩⟩)))]⟩, none⟩,
    ⟨some 6, .call ⟨.value (.func 75), ⟨[(.tmp 4), (.tmp 5)]⟩, ⟨[72, 101]⟩⟩, none⟩,
    ⟨some 7, .move (.tmp 0), none⟩,
    ⟨some 8, .buildSlice 101 5 ⟨[(0, (.const (.string ⟨⟨[]⟩⟩))), (1, (.const (.string ⟨⟨[51]⟩⟩))), (2, (.const (.string ⟨⟨[63]⟩⟩))), (3, (.const (.string ⟨⟨[97, 64, 98]⟩⟩))), (4, (.const (.string ⟨⟨[51, 32, 49, 32, 50]⟩⟩)))]⟩, none⟩,
    ⟨some 9, .call ⟨.value (.func 75), ⟨[(.tmp 7), (.tmp 8)]⟩, ⟨[72, 101]⟩⟩, none⟩,
    ⟨some 10, .build 25 ⟨[(0, (.tmp 6)), (1, (.tmp 9))]⟩, none⟩,
    ⟨some 3, .alloc 25, none⟩,
    ⟨none, .store 25 (.tmp 3) (.tmp 10), none⟩])
  (.seq (.seq (.reg [⟨some 11, .move (.tmp 0), none⟩,
      ⟨some 12, .call ⟨.value (.func 57), ⟨[(.tmp 11), (.const (.int .i64 24))]⟩, ⟨[72, 3]⟩⟩, none⟩])
    (.block 0 (.seq (.reg [⟨some 14, .binOp .eql 3 (.tmp 12) (.const (.int .i64 0)) 3, none⟩,
        ⟨some 13, .assign (.tmp 14), none⟩])
      (.cond (.tmp 13)
       (.reg [⟨some 15, .move (.tmp 0), none⟩,
         ⟨some 16, .makeSlice 22 (.const (.int .i64 3)) (.const (.int .i64 3)), none⟩,
         ⟨some 17, .convert 22 9 (.tmp 16), none⟩,
         ⟨some 18, .buildSlice 101 5 ⟨[(0, (.const (.string ⟨⟨[]⟩⟩))), (1, (.const (.string ⟨⟨[97, 64, 98]⟩⟩))), (2, (.const (.string ⟨⟨[97, 35]⟩⟩))), (3, (.const (.string ⟨⟨[10]⟩⟩))), (4, (.tmp 17))]⟩, none⟩,
         ⟨some 19, .call ⟨.value (.func 75), ⟨[(.tmp 15), (.tmp 18)]⟩, ⟨[72, 101]⟩⟩, none⟩,
         ⟨some 20, .fieldAddr 25 (.tmp 3) 0, none⟩,
         ⟨none, .store 9 (.tmp 20) (.tmp 19), none⟩])
       (.seq (.reg [⟨some 22, .binOp .eql 3 (.tmp 12) (.const (.int .i64 1)) 3, none⟩,
          ⟨some 21, .assign (.tmp 22), none⟩])
        (.cond (.tmp 21)
         (.reg [⟨some 23, .move (.tmp 0), none⟩,
           ⟨some 24, .buildSlice 101 3 ⟨[(0, (.const (.string ⟨⟨[35]⟩⟩))), (1, (.const (.string ⟨⟨[10]⟩⟩))), (2, (.const (.string ⟨⟨[127]⟩⟩)))]⟩, none⟩,
           ⟨some 25, .call ⟨.value (.func 75), ⟨[(.tmp 23), (.tmp 24)]⟩, ⟨[72, 101]⟩⟩, none⟩,
           ⟨some 26, .fieldAddr 25 (.tmp 3) 1, none⟩,
           ⟨none, .store 9 (.tmp 26) (.tmp 25), none⟩])
         .skip))))))
   (.seq (.reg [⟨some 27, .load 25 (.tmp 3), none⟩,
      ⟨none, .store 25 (.tmp 2) (.tmp 27), none⟩])
    .ret))))
theorem F48 : IsFun Tryd.prog 48 h48 s48 [.cell 2 25] 28 := ⟨_, Tryd.func48, by kernel_rfl, by kernel_rfl, by kernel_rfl, by kernel_rfl, by kernel_rfl⟩

/-- spec.DrawIsValidRecord -/
def h8 : Hints := { trs := [], cps := [], refs := [], tree := true }
def s8 : SC :=
(.seq (.reg [⟨some 2, .alloc 25, none⟩])
 (.seq (.reg [⟨some 4, .move (.tmp 0), none⟩,
    ⟨some 5, .build 75 ⟨[(0, (.tmp 4))]⟩, none⟩,
    ⟨some 6, .box 75 (.tmp 5), none⟩,
    ⟨some 3, .assign (.tmp 6), none⟩])
  (.seq (.reg [⟨some 7, .move (.tmp 3), none⟩,
     ⟨some 8, .call ⟨.value (.func 48), ⟨[(.tmp 7)]⟩, ⟨[72]⟩⟩, none⟩,
     ⟨none, .store 25 (.tmp 2) (.tmp 8), none⟩])
   .ret)))
theorem F8 : IsFun Tryd.prog 8 h8 s8 [.cell 2 25] 9 := ⟨_, Tryd.func8, by kernel_rfl, by kernel_rfl, by kernel_rfl, by kernel_rfl, by kernel_rfl⟩

/-- (*spec.l1Cur).among -/
def h49 : Hints := { trs := [], cps := [], refs := [], tree := true }
def s49 : SC :=
(.seq (.reg [⟨some 4, .assign (.const (.int .i64 0)), none⟩])
 (.seq (.reg [⟨some 5, .move (.tmp 1), none⟩,
    ⟨some 6, .move (.tmp 0), none⟩,
    ⟨some 7, .move (.tmp 1), none⟩,
    ⟨some 8, .call ⟨.builtin .len, ⟨[(.tmp 7)]⟩, ⟨[78]⟩⟩, none⟩,
    ⟨some 9, .call ⟨.value (.func 57), ⟨[(.tmp 6), (.tmp 8)]⟩, ⟨[72, 3]⟩⟩, none⟩,
    ⟨some 10, .indexAddr 78 (.tmp 5) (.tmp 9), none⟩,
    ⟨some 11, .load 3 (.tmp 10), none⟩,
    ⟨some 4, .assign (.tmp 11), none⟩])
  .ret))
theorem F49 : IsFun Tryd.prog 49 h49 s49 [.tmp 4] 12 := ⟨_, Tryd.func49, by kernel_rfl, by kernel_rfl, by kernel_rfl, by kernel_rfl, by kernel_rfl⟩

/-- spec.DrawEncodeRecord -/
def h9 : Hints := { trs := [], cps := [], refs := [], tree := true }
def s9 : SC :=
(.seq (.reg [⟨some 2, .assign (.const (.int .i64 0)), none⟩,
   ⟨some 3, .alloc 25, none⟩])
 (.seq (.reg [⟨some 6, .move (.tmp 0), none⟩,
    ⟨some 7, .build 75 ⟨[(0, (.tmp 6))]⟩, none⟩,
    ⟨some 8, .box 75 (.tmp 7), none⟩,
    ⟨some 4, .assign (.tmp 8), none⟩])
  (.seq (.reg [⟨some 9, .move (.tmp 4), none⟩,
     ⟨some 10, .buildSlice 78 6 ⟨[(0, (.const (.int .i64 0))), (1, (.const (.int .i64 1))), (2, (.const (.int .i64 12))), (3, (.const (.int .i64 59))), (4, (.const (.int .i64 60))), (5, (.const (.int .i64 (-1))))]⟩, none⟩,
     ⟨some 11, .call ⟨.value (.func 49), ⟨[(.tmp 9), (.tmp 10)]⟩, ⟨[72, 78]⟩⟩, none⟩,
     ⟨some 5, .assign (.tmp 11), none⟩])
   (.seq (.reg [⟨some 12, .move (.tmp 5), none⟩,
      ⟨some 13, .move (.tmp 4), none⟩,
      ⟨some 14, .call ⟨.value (.func 48), ⟨[(.tmp 13)]⟩, ⟨[72]⟩⟩, none⟩,
      ⟨some 2, .assign (.tmp 12), none⟩,
      ⟨none, .store 25 (.tmp 3) (.tmp 14), none⟩])
    .ret))))
theorem F9 : IsFun Tryd.prog 9 h9 s9 [.tmp 2, .cell 3 25] 15 := ⟨_, Tryd.func9, by kernel_rfl, by kernel_rfl, by kernel_rfl, by kernel_rfl, by kernel_rfl⟩

/-- laws.vCut -/
def h10 : Hints := {}
def s10 : SC :=
(.seq (.reg [⟨some 4, .assign (.const (.slice none 0 0)), none⟩])
 (.seq (.seq (.reg [⟨some 5, .move (.tmp 1), none⟩,
     ⟨some 6, .move (.tmp 0), none⟩,
     ⟨some 7, .call ⟨.builtin .len, ⟨[(.tmp 6)]⟩, ⟨[22]⟩⟩, none⟩,
     ⟨some 8, .binOp .gtr 3 (.tmp 5) (.tmp 7) 3, none⟩])
   (.cond (.tmp 8)
    (.reg [⟨some 9, .move (.tmp 0), none⟩,
      ⟨some 10, .call ⟨.builtin .len, ⟨[(.tmp 9)]⟩, ⟨[22]⟩⟩, none⟩,
      ⟨some 1, .assign (.tmp 10), none⟩])
    .skip))
  (.seq (.reg [⟨some 11, .buildSlice 22 0 ⟨[]⟩, none⟩,
     ⟨some 12, .move (.tmp 0), none⟩,
     ⟨some 13, .move (.tmp 1), none⟩,
     ⟨some 14, .slice 22 (.tmp 12) (some (.tmp 13)) none none, none⟩,
     ⟨some 15, .call ⟨.builtin .append, ⟨[(.tmp 11), (.tmp 14)]⟩, ⟨[22, 22]⟩⟩, none⟩,
     ⟨some 16, .move (.tmp 1), none⟩,
     ⟨some 17, .convert 3 5 (.tmp 16), none⟩,
     ⟨some 18, .buildSlice 22 1 ⟨[(0, (.tmp 17))]⟩, none⟩,
     ⟨some 19, .call ⟨.builtin .append, ⟨[(.tmp 15), (.tmp 18)]⟩, ⟨[22, 22]⟩⟩, none⟩,
     ⟨some 4, .assign (.tmp 19), none⟩])
   .ret)))
theorem F10 : IsFun Tryd.prog 10 h10 s10 [.tmp 4] 20 := ⟨_, Tryd.func10, by kernel_rfl, by kernel_rfl, by kernel_rfl, by kernel_rfl, by kernel_rfl⟩

/-- impl.isPlain -/
def h60 : Hints := {}
def s60 : SC :=
(.seq (.reg [⟨some 4, .assign (.const (.bool false)), none⟩])
 (.seq (.seq (.reg [⟨some 6, .move (.tmp 0), none⟩,
     ⟨some 7, .call ⟨.builtin .len, ⟨[(.tmp 6)]⟩, ⟨[9]⟩⟩, none⟩,
     ⟨some 8, .move (.const (.int .i64 0)), none⟩])
   (.block 0 (.loop (.seq (.reg [⟨some 9, .binOp .lss 3 (.tmp 8) (.tmp 7) 3, none⟩])
      (.seq (.cond (.tmp 9)
        .skip
        (.exit 0))
       (.seq (.block 1 (.seq (.reg [⟨some 10, .move (.tmp 8), none⟩,
            ⟨some 5, .assign (.tmp 10), none⟩])
          (.seq (.reg [⟨some 11, .move (.tmp 0), none⟩,
             ⟨some 12, .move (.tmp 5), none⟩,
             ⟨some 13, .index 9 (.tmp 11) (.tmp 12), none⟩,
             ⟨some 14, .binOp .lss 5 (.tmp 13) (.const (.int .u8 32)) 5, none⟩,
             ⟨some 15, .move (.tmp 14), none⟩,
             ⟨some 16, .move (.tmp 0), some (15, false)⟩,
             ⟨some 17, .move (.tmp 5), some (15, false)⟩,
             ⟨some 18, .index 9 (.tmp 16) (.tmp 17), some (15, false)⟩,
             ⟨some 19, .binOp .gtr 5 (.tmp 18) (.const (.int .u8 126)) 5, some (15, false)⟩,
             ⟨some 20, .pick (.tmp 15) (.const (.bool true)) (.tmp 19), none⟩,
             ⟨some 21, .move (.tmp 20), none⟩,
             ⟨some 22, .move (.tmp 0), some (21, false)⟩,
             ⟨some 23, .move (.tmp 5), some (21, false)⟩,
             ⟨some 24, .index 9 (.tmp 22) (.tmp 23), some (21, false)⟩,
             ⟨some 25, .binOp .eql 5 (.tmp 24) (.const (.int .u8 35)) 5, some (21, false)⟩,
             ⟨some 26, .pick (.tmp 21) (.const (.bool true)) (.tmp 25), none⟩])
           (.cond (.tmp 26)
            (.seq (.reg [⟨some 4, .assign (.const (.bool false)), none⟩])
            .ret)
            .skip))))
        (.reg [⟨some 27, .binOp .add 3 (.tmp 8) (.const (.int .i64 1)) 3, none⟩,
          ⟨some 8, .move (.tmp 27), none⟩])))))))
  (.seq (.reg [⟨some 28, .move (.tmp 0), none⟩,
     ⟨some 29, .call ⟨.builtin .len, ⟨[(.tmp 28)]⟩, ⟨[9]⟩⟩, none⟩,
     ⟨some 30, .move (.tmp 1), none⟩,
     ⟨some 31, .binOp .leq 3 (.tmp 29) (.tmp 30) 3, none⟩,
     ⟨some 4, .assign (.tmp 31), none⟩])
   .ret)))
theorem F60 : IsFun Tryd.prog 60 h60 s60 [.tmp 4] 32 := ⟨_, Tryd.func60, by kernel_rfl, by kernel_rfl, by kernel_rfl, by kernel_rfl, by kernel_rfl⟩

/-- impl.isCommand -/
def h59 : Hints := {}
def s59 : SC :=
(.seq (.reg [⟨some 2, .assign (.const (.bool false)), none⟩])
 (.seq (.reg [⟨some 3, .move (.tmp 0), none⟩,
    ⟨some 4, .binOp .neq 9 (.tmp 3) (.const (.string ⟨⟨[]⟩⟩)) 9, none⟩,
    ⟨some 5, .move (.tmp 4), none⟩,
    ⟨some 6, .move (.tmp 0), some (5, true)⟩,
    ⟨some 7, .call ⟨.value (.func 60), ⟨[(.tmp 6), (.const (.int .i64 160))]⟩, ⟨[9, 3]⟩⟩, some (5, true)⟩,
    ⟨some 8, .pick (.tmp 5) (.tmp 7) (.const (.bool false)), none⟩,
    ⟨some 9, .move (.tmp 8), none⟩,
    ⟨some 10, .move (.tmp 0), some (9, true)⟩,
    ⟨some 11, .call ⟨.value (.func 79), ⟨[(.tmp 10), (.const (.string ⟨⟨[64]⟩⟩))]⟩, ⟨[9, 9]⟩⟩, some (9, true)⟩,
    ⟨some 12, .unOp .not 4 (.tmp 11), some (9, true)⟩,
    ⟨some 13, .pick (.tmp 9) (.tmp 12) (.const (.bool false)), none⟩,
    ⟨some 2, .assign (.tmp 13), none⟩])
  .ret))
theorem F59 : IsFun Tryd.prog 59 h59 s59 [.tmp 2] 14 := ⟨_, Tryd.func59, by kernel_rfl, by kernel_rfl, by kernel_rfl, by kernel_rfl, by kernel_rfl⟩

/-- impl.IsValidRecord -/
def h17 : Hints := {}
def s17 : SC :=
(.seq (.reg [⟨some 1, .box 25 (.tmp 0), none⟩,
   ⟨some 2, .assign (.const (.bool false)), none⟩])
 (.seq (.reg [⟨some 3, .fieldAddr 25 (.tmp 1) 0, none⟩,
    ⟨some 4, .load 9 (.tmp 3), none⟩,
    ⟨some 5, .call ⟨.value (.func 59), ⟨[(.tmp 4)]⟩, ⟨[9]⟩⟩, none⟩,
    ⟨some 6, .move (.tmp 5), none⟩,
    ⟨some 7, .fieldAddr 25 (.tmp 1) 1, some (6, true)⟩,
    ⟨some 8, .load 9 (.tmp 7), some (6, true)⟩,
    ⟨some 9, .call ⟨.value (.func 60), ⟨[(.tmp 8), (.const (.int .i64 280))]⟩, ⟨[9, 3]⟩⟩, some (6, true)⟩,
    ⟨some 10, .pick (.tmp 6) (.tmp 9) (.const (.bool false)), none⟩,
    ⟨some 2, .assign (.tmp 10), none⟩])
  .ret))
theorem F17 : IsFun Tryd.prog 17 h17 s17 [.tmp 2] 11 := ⟨_, Tryd.func17, by kernel_rfl, by kernel_rfl, by kernel_rfl, by kernel_rfl, by kernel_rfl⟩

/-- impl.checksum -/
def h80 : Hints := {}
def s80 : SC :=
(.seq (.reg [⟨some 2, .assign (.const (.int .i64 0)), none⟩])
 (.seq (.reg [⟨some 3, .assign (.const (.int .i64 7)), none⟩])
  (.seq (.seq (.reg [⟨some 5, .move (.tmp 0), none⟩,
      ⟨some 6, .call ⟨.builtin .len, ⟨[(.tmp 5)]⟩, ⟨[9]⟩⟩, none⟩,
      ⟨some 7, .move (.const (.int .i64 0)), none⟩])
    (.block 0 (.loop (.seq (.reg [⟨some 8, .binOp .lss 3 (.tmp 7) (.tmp 6) 3, none⟩])
       (.seq (.cond (.tmp 8)
         .skip
         (.exit 0))
        (.seq (.block 1 (.seq (.reg [⟨some 9, .move (.tmp 7), none⟩,
             ⟨some 4, .assign (.tmp 9), none⟩])
           (.reg [⟨some 10, .move (.tmp 3), none⟩,
             ⟨some 11, .binOp .mul 3 (.const (.int .i64 41)) (.tmp 10) 3, none⟩,
             ⟨some 12, .move (.tmp 0), none⟩,
             ⟨some 13, .move (.tmp 4), none⟩,
             ⟨some 14, .index 9 (.tmp 12) (.tmp 13), none⟩,
             ⟨some 15, .convert 5 3 (.tmp 14), none⟩,
             ⟨some 16, .binOp .add 3 (.tmp 11) (.tmp 15) 3, none⟩,
             ⟨some 17, .binOp .add 3 (.tmp 16) (.const (.int .i64 1)) 3, none⟩,
             ⟨some 18, .binOp .rem 3 (.tmp 17) (.const (.int .i64 999979)) 3, none⟩,
             ⟨some 3, .assign (.tmp 18), none⟩])))
         (.reg [⟨some 19, .binOp .add 3 (.tmp 7) (.const (.int .i64 1)) 3, none⟩,
           ⟨some 7, .move (.tmp 19), none⟩])))))))
   (.seq (.reg [⟨some 20, .move (.tmp 3), none⟩,
      ⟨some 2, .assign (.tmp 20), none⟩])
    .ret))))
theorem F80 : IsFun Tryd.prog 80 h80 s80 [.tmp 2] 21 := ⟨_, Tryd.func80, by kernel_rfl, by kernel_rfl, by kernel_rfl, by kernel_rfl, by kernel_rfl⟩

/-- impl.AppendChecksum -/
def h44 : Hints := {}
def s44 : SC :=
(.seq (.reg [⟨some 2, .assign (.const (.string ⟨⟨[]⟩⟩)), none⟩,
   ⟨some 3, .assign (.const (.bool false)), none⟩])
 (.seq (.seq (.reg [⟨some 5, .move (.tmp 0), none⟩,
     ⟨some 6, .call ⟨.builtin .len, ⟨[(.tmp 5)]⟩, ⟨[9]⟩⟩, none⟩,
     ⟨some 7, .binOp .gtr 3 (.tmp 6) (.const (.int .i64 4000)) 3, none⟩,
     ⟨some 8, .move (.tmp 7), none⟩,
     ⟨some 9, .move (.tmp 0), some (8, false)⟩,
     ⟨some 10, .call ⟨.value (.func 79), ⟨[(.tmp 9), (.const (.string ⟨⟨[35]⟩⟩))]⟩, ⟨[9, 9]⟩⟩, some (8, false)⟩,
     ⟨some 11, .pick (.tmp 8) (.const (.bool true)) (.tmp 10), none⟩])
   (.cond (.tmp 11)
    (.seq (.reg [⟨some 2, .assign (.const (.string ⟨⟨[]⟩⟩)), none⟩,
       ⟨some 3, .assign (.const (.bool false)), none⟩])
     .ret)
    .skip))
  (.seq (.reg [⟨some 12, .move (.tmp 0), none⟩,
     ⟨some 13, .binOp .add 9 (.tmp 12) (.const (.string ⟨⟨[35]⟩⟩)) 9, none⟩,
     ⟨some 14, .move (.tmp 0), none⟩,
     ⟨some 15, .call ⟨.value (.func 80), ⟨[(.tmp 14)]⟩, ⟨[9]⟩⟩, none⟩,
     ⟨some 16, .call ⟨.value (.func 51), ⟨[(.tmp 15)]⟩, ⟨[3]⟩⟩, none⟩,
     ⟨some 17, .binOp .add 9 (.tmp 13) (.tmp 16) 9, none⟩,
     ⟨some 4, .assign (.tmp 17), none⟩])
   (.seq (.seq (.reg [⟨some 18, .move (.tmp 4), none⟩,
       ⟨some 19, .call ⟨.builtin .len, ⟨[(.tmp 18)]⟩, ⟨[9]⟩⟩, none⟩,
       ⟨some 20, .binOp .gtr 3 (.tmp 19) (.const (.int .i64 4000)) 3, none⟩])
     (.cond (.tmp 20)
      (.seq (.reg [⟨some 2, .assign (.const (.string ⟨⟨[]⟩⟩)), none⟩,
         ⟨some 3, .assign (.const (.bool false)), none⟩])
       .ret)
      .skip))
    (.seq (.reg [⟨some 21, .move (.tmp 4), none⟩,
       ⟨some 2, .assign (.tmp 21), none⟩,
       ⟨some 3, .assign (.const (.bool true)), none⟩])
     .ret)))))
theorem F44 : IsFun Tryd.prog 44 h44 s44 [.tmp 2, .tmp 3] 22 := ⟨_, Tryd.func44, by kernel_rfl, by kernel_rfl, by kernel_rfl, by kernel_rfl, by kernel_rfl⟩

/-- impl.within -/
def h50 : Hints := {}
def s50 : SC :=
(.seq (.reg [⟨some 6, .assign (.const (.bool false)), none⟩])
 (.seq (.reg [⟨some 7, .move (.tmp 0), none⟩,
    ⟨some 8, .move (.tmp 1), none⟩,
    ⟨some 9, .binOp .geq 3 (.tmp 7) (.tmp 8) 3, none⟩,
    ⟨some 10, .move (.tmp 9), none⟩,
    ⟨some 11, .move (.tmp 0), some (10, true)⟩,
    ⟨some 12, .move (.tmp 2), some (10, true)⟩,
    ⟨some 13, .binOp .leq 3 (.tmp 11) (.tmp 12) 3, some (10, true)⟩,
    ⟨some 14, .pick (.tmp 10) (.tmp 13) (.const (.bool false)), none⟩,
    ⟨some 6, .assign (.tmp 14), none⟩])
  .ret))
theorem F50 : IsFun Tryd.prog 50 h50 s50 [.tmp 6] 15 := ⟨_, Tryd.func50, by kernel_rfl, by kernel_rfl, by kernel_rfl, by kernel_rfl, by kernel_rfl⟩

/-- impl.EncodeRecord -/
def h11 : Hints := { trs := [], cps := [6, 7], refs := [] }
def s11 : SC :=
(.seq (.reg [⟨some 3, .box 25 (.tmp 1), none⟩,
   ⟨some 4, .assign (.const (.string ⟨⟨[]⟩⟩)), none⟩,
   ⟨some 5, .assign (.const (.bool false)), none⟩])
 (.seq (.seq (.reg [⟨some 8, .move (.tmp 0), none⟩,
     ⟨some 9, .call ⟨.value (.func 50), ⟨[(.tmp 8), (.const (.int .i64 0)), (.const (.int .i64 59))]⟩, ⟨[3, 3, 3]⟩⟩, none⟩,
     ⟨some 10, .unOp .not 4 (.tmp 9), none⟩,
     ⟨some 11, .move (.tmp 10), none⟩,
     ⟨some 12, .load 25 (.tmp 3), some (11, false)⟩,
     ⟨some 13, .call ⟨.value (.func 17), ⟨[(.tmp 12)]⟩, ⟨[25]⟩⟩, some (11, false)⟩,
     ⟨some 14, .unOp .not 4 (.tmp 13), some (11, false)⟩,
     ⟨some 15, .pick (.tmp 11) (.const (.bool true)) (.tmp 14), none⟩])
   (.cond (.tmp 15)
    (.seq (.reg [⟨some 4, .assign (.const (.string ⟨⟨[]⟩⟩)), none⟩,
       ⟨some 5, .assign (.const (.bool false)), none⟩])
     .ret)
    .skip))
  (.seq (.regp [⟨some 17, .move (.tmp 0), none⟩,
     ⟨some 20, .fieldAddr 25 (.tmp 3) 0, none⟩,
     ⟨some 21, .load 9 (.tmp 20), none⟩,
     ⟨some 24, .fieldAddr 25 (.tmp 3) 1, none⟩,
     ⟨some 25, .load 9 (.tmp 24), none⟩,
     ⟨some 18, .call ⟨.value (.func 51), ⟨[(.tmp 17)]⟩, ⟨[3]⟩⟩, none⟩,
     ⟨some 19, .binOp .add 9 (.tmp 18) (.const (.string ⟨⟨[32]⟩⟩)) 9, none⟩,
     ⟨some 22, .binOp .add 9 (.tmp 19) (.tmp 21) 9, none⟩,
     ⟨some 23, .binOp .add 9 (.tmp 22) (.const (.string ⟨⟨[64]⟩⟩)) 9, none⟩,
     ⟨some 26, .binOp .add 9 (.tmp 23) (.tmp 25) 9, none⟩,
     ⟨some 27, .call ⟨.value (.func 44), ⟨[(.tmp 26)]⟩, ⟨[9]⟩⟩, none⟩,
     ⟨some 16, .move (.tmp 27), none⟩,
     ⟨some 28, .extract (.tmp 16) 0, none⟩,
     ⟨some 29, .extract (.tmp 16) 1, none⟩,
     ⟨some 6, .assign (.tmp 28), none⟩,
     ⟨some 7, .assign (.tmp 29), none⟩])
   (.seq (.reg [⟨some 30, .move (.tmp 6), none⟩,
      ⟨some 31, .binOp .add 9 (.tmp 30) (.const (.string ⟨⟨[10]⟩⟩)) 9, none⟩,
      ⟨some 32, .move (.tmp 7), none⟩,
      ⟨some 4, .assign (.tmp 31), none⟩,
      ⟨some 5, .assign (.tmp 32), none⟩])
    .ret))))
theorem F11 : IsFun Tryd.prog 11 h11 s11 [.tmp 4, .tmp 5] 33 := ⟨_, Tryd.func11, by kernel_rfl, by kernel_rfl, by kernel_rfl, by kernel_rfl, by kernel_rfl⟩

/-- spec.l1In -/
def h52 : Hints := {}
def s52 : SC :=
(.seq (.reg [⟨some 6, .assign (.const (.bool false)), none⟩])
 (.seq (.reg [⟨some 7, .move (.tmp 0), none⟩,
    ⟨some 8, .move (.tmp 1), none⟩,
    ⟨some 9, .binOp .geq 3 (.tmp 7) (.tmp 8) 3, none⟩,
    ⟨some 10, .move (.tmp 9), none⟩,
    ⟨some 11, .move (.tmp 0), some (10, true)⟩,
    ⟨some 12, .move (.tmp 2), some (10, true)⟩,
    ⟨some 13, .binOp .leq 3 (.tmp 11) (.tmp 12) 3, some (10, true)⟩,
    ⟨some 14, .pick (.tmp 10) (.tmp 13) (.const (.bool false)), none⟩,
    ⟨some 6, .assign (.tmp 14), none⟩])
  .ret))
theorem F52 : IsFun Tryd.prog 52 h52 s52 [.tmp 6] 15 := ⟨_, Tryd.func52, by kernel_rfl, by kernel_rfl, by kernel_rfl, by kernel_rfl, by kernel_rfl⟩

/-- spec.l1Stands -/
def h81 : Hints := {}
def s81 : SC :=
(.seq (.reg [⟨some 4, .assign (.const (.bool false)), none⟩])
 (.seq (.seq (.reg [⟨some 5, .assign (.const (.int .i64 0)), none⟩])
   (.block 0 (.loop (.seq (.seq (.reg [⟨some 6, .move (.tmp 5), none⟩,
         ⟨some 7, .move (.tmp 0), none⟩,
         ⟨some 8, .call ⟨.builtin .len, ⟨[(.tmp 7)]⟩, ⟨[9]⟩⟩, none⟩,
         ⟨some 9, .binOp .lss 3 (.tmp 6) (.tmp 8) 3, none⟩])
       (.cond (.tmp 9)
        .skip
        (.exit 0)))
      (.seq (.block 1 (.seq (.reg [⟨some 12, .move (.tmp 0), none⟩,
           ⟨some 13, .move (.tmp 5), none⟩,
           ⟨some 14, .index 9 (.tmp 12) (.tmp 13), none⟩,
           ⟨some 15, .move (.tmp 1), none⟩,
           ⟨some 16, .binOp .eql 5 (.tmp 14) (.tmp 15) 5, none⟩])
         (.cond (.tmp 16)
          (.seq (.reg [⟨some 4, .assign (.const (.bool true)), none⟩])
           .ret)
          .skip)))
       (.reg [⟨some 10, .move (.tmp 5), none⟩,
         ⟨some 11, .binOp .add 3 (.tmp 10) (.const (.int .i64 1)) 3, none⟩,
         ⟨some 5, .assign (.tmp 11), none⟩]))))))
  (.seq (.reg [⟨some 4, .assign (.const (.bool false)), none⟩])
   .ret)))
theorem F81 : IsFun Tryd.prog 81 h81 s81 [.tmp 4] 17 := ⟨_, Tryd.func81, by kernel_rfl, by kernel_rfl, by kernel_rfl, by kernel_rfl, by kernel_rfl⟩

/-- spec.l12Bytes -/
def h85 : Hints := {}
def s85 : SC :=
(.seq (.reg [⟨some 4, .assign (.const (.bool false)), none⟩])
 (.seq (.seq (.reg [⟨some 5, .assign (.const (.int .i64 0)), none⟩])
   (.block 0 (.loop (.seq (.seq (.reg [⟨some 6, .move (.tmp 5), none⟩,
         ⟨some 7, .move (.tmp 0), none⟩,
         ⟨some 8, .call ⟨.builtin .len, ⟨[(.tmp 7)]⟩, ⟨[9]⟩⟩, none⟩,
         ⟨some 9, .binOp .lss 3 (.tmp 6) (.tmp 8) 3, none⟩])
       (.cond (.tmp 9)
        .skip
        (.exit 0)))
      (.seq (.block 1 (.seq (.reg [⟨some 12, .move (.tmp 0), none⟩,
           ⟨some 13, .move (.tmp 5), none⟩,
           ⟨some 14, .index 9 (.tmp 12) (.tmp 13), none⟩,
           ⟨some 15, .convert 5 3 (.tmp 14), none⟩,
           ⟨some 16, .call ⟨.value (.func 52), ⟨[(.tmp 15), (.const (.int .i64 32)), (.const (.int .i64 126))]⟩, ⟨[3, 3, 3]⟩⟩, none⟩,
           ⟨some 17, .unOp .not 4 (.tmp 16), none⟩,
           ⟨some 18, .move (.tmp 17), none⟩,
           ⟨some 19, .move (.tmp 0), some (18, false)⟩,
           ⟨some 20, .move (.tmp 5), some (18, false)⟩,
           ⟨some 21, .index 9 (.tmp 19) (.tmp 20), some (18, false)⟩,
           ⟨some 22, .binOp .eql 5 (.tmp 21) (.const (.int .u8 35)) 5, some (18, false)⟩,
           ⟨some 23, .pick (.tmp 18) (.const (.bool true)) (.tmp 22), none⟩])
         (.cond (.tmp 23)
          (.seq (.reg [⟨some 4, .assign (.const (.bool false)), none⟩])
           .ret)
          .skip)))
       (.reg [⟨some 10, .move (.tmp 5), none⟩,
         ⟨some 11, .binOp .add 3 (.tmp 10) (.const (.int .i64 1)) 3, none⟩,
         ⟨some 5, .assign (.tmp 11), none⟩]))))))
  (.seq (.reg [⟨some 24, .move (.tmp 0), none⟩,
     ⟨some 25, .call ⟨.builtin .len, ⟨[(.tmp 24)]⟩, ⟨[9]⟩⟩, none⟩,
     ⟨some 26, .move (.tmp 1), none⟩,
     ⟨some 27, .binOp .leq 3 (.tmp 25) (.tmp 26) 3, none⟩,
     ⟨some 4, .assign (.tmp 27), none⟩])
   .ret)))
theorem F85 : IsFun Tryd.prog 85 h85 s85 [.tmp 4] 28 := ⟨_, Tryd.func85, by kernel_rfl, by kernel_rfl, by kernel_rfl, by kernel_rfl, by kernel_rfl⟩

/-- spec.l12Record -/
def h53 : Hints := {}
def s53 : SC :=
(.seq (.reg [⟨some 1, .box 25 (.tmp 0), none⟩,
   ⟨some 2, .assign (.const (.bool false)), none⟩])
 (.seq (.reg [⟨some 3, .fieldAddr 25 (.tmp 1) 0, none⟩,
    ⟨some 4, .load 9 (.tmp 3), none⟩,
    ⟨some 5, .binOp .neq 9 (.tmp 4) (.const (.string ⟨⟨[]⟩⟩)) 9, none⟩,
    ⟨some 6, .move (.tmp 5), none⟩,
    ⟨some 7, .fieldAddr 25 (.tmp 1) 0, some (6, true)⟩,
    ⟨some 8, .load 9 (.tmp 7), some (6, true)⟩,
    ⟨some 9, .call ⟨.value (.func 85), ⟨[(.tmp 8), (.const (.int .i64 160))]⟩, ⟨[9, 3]⟩⟩, some (6, true)⟩,
    ⟨some 10, .pick (.tmp 6) (.tmp 9) (.const (.bool false)), none⟩,
    ⟨some 11, .move (.tmp 10), none⟩,
    ⟨some 12, .fieldAddr 25 (.tmp 1) 0, some (11, true)⟩,
    ⟨some 13, .load 9 (.tmp 12), some (11, true)⟩,
    ⟨some 14, .call ⟨.value (.func 81), ⟨[(.tmp 13), (.const (.int .u8 64))]⟩, ⟨[9, 5]⟩⟩, some (11, true)⟩,
    ⟨some 15, .unOp .not 4 (.tmp 14), some (11, true)⟩,
    ⟨some 16, .pick (.tmp 11) (.tmp 15) (.const (.bool false)), none⟩,
    ⟨some 17, .move (.tmp 16), none⟩,
    ⟨some 18, .fieldAddr 25 (.tmp 1) 1, some (17, true)⟩,
    ⟨some 19, .load 9 (.tmp 18), some (17, true)⟩,
    ⟨some 20, .call ⟨.value (.func 85), ⟨[(.tmp 19), (.const (.int .i64 280))]⟩, ⟨[9, 3]⟩⟩, some (17, true)⟩,
    ⟨some 21, .pick (.tmp 17) (.tmp 20) (.const (.bool false)), none⟩,
    ⟨some 2, .assign (.tmp 21), none⟩])
  .ret))
theorem F53 : IsFun Tryd.prog 53 h53 s53 [.tmp 2] 22 := ⟨_, Tryd.func53, by kernel_rfl, by kernel_rfl, by kernel_rfl, by kernel_rfl, by kernel_rfl⟩

/-- spec.l1Num -/
def h74 : Hints := { trs := [], cps := [2], refs := [] }
def s74 : SC :=
(.seq (.reg [⟨some 2, .assign (.const (.string ⟨⟨[]⟩⟩)), none⟩])
 (.seq (.seq (.reg [⟨some 3, .move (.tmp 0), none⟩,
     ⟨some 4, .binOp .lss 3 (.tmp 3) (.const (.int .i64 0)) 3, none⟩])
   (.cond (.tmp 4)
    (.seq (.seq (.reg [⟨some 5, .move (.tmp 0), none⟩,
        ⟨some 6, .binOp .gtr 3 (.tmp 5) (.const (.int .i64 (-10))) 3, none⟩])
      (.cond (.tmp 6)
       (.seq (.reg [⟨some 7, .move (.tmp 0), none⟩,
          ⟨some 8, .unOp .neg 3 (.tmp 7), none⟩,
          ⟨some 9, .call ⟨.value (.func 74), ⟨[(.tmp 8)]⟩, ⟨[3]⟩⟩, none⟩,
          ⟨some 10, .binOp .add 9 (.const (.string ⟨⟨[45]⟩⟩)) (.tmp 9) 9, none⟩,
          ⟨some 2, .assign (.tmp 10), none⟩])
        .ret)
       .skip))
     (.seq (.reg [⟨some 11, .move (.tmp 0), none⟩,
        ⟨some 12, .binOp .quo 3 (.tmp 11) (.const (.int .i64 10)) 3, none⟩,
        ⟨some 13, .call ⟨.value (.func 74), ⟨[(.tmp 12)]⟩, ⟨[3]⟩⟩, none⟩,
        ⟨some 14, .move (.tmp 0), none⟩,
        ⟨some 15, .binOp .rem 3 (.tmp 14) (.const (.int .i64 10)) 3, none⟩,
        ⟨some 16, .unOp .neg 3 (.tmp 15), none⟩,
        ⟨some 17, .call ⟨.value (.func 74), ⟨[(.tmp 16)]⟩, ⟨[3]⟩⟩, none⟩,
        ⟨some 18, .binOp .add 9 (.tmp 13) (.tmp 17) 9, none⟩,
        ⟨some 2, .assign (.tmp 18), none⟩])
      .ret))
    .skip))
  (.seq (.seq (.reg [⟨some 19, .move (.tmp 0), none⟩,
      ⟨some 20, .binOp .lss 3 (.tmp 19) (.const (.int .i64 10)) 3, none⟩])
    (.cond (.tmp 20)
     (.seq (.reg [⟨some 21, .move (.tmp 0), none⟩,
        ⟨some 22, .move (.tmp 0), none⟩,
        ⟨some 23, .binOp .add 3 (.tmp 22) (.const (.int .i64 1)) 3, none⟩,
        ⟨some 24, .slice 9 (.const (.string ⟨⟨[48, 49, 50, 51, 52, 53, 54, 55, 56, 57]⟩⟩)) (some (.tmp 21)) (some (.tmp 23)) none, none⟩,
        ⟨some 2, .assign (.tmp 24), none⟩])
      .ret)
     .skip))
   (.seq (.reg [⟨some 25, .move (.tmp 0), none⟩,
      ⟨some 26, .binOp .quo 3 (.tmp 25) (.const (.int .i64 10)) 3, none⟩,
      ⟨some 28, .move (.tmp 0), none⟩,
      ⟨some 29, .binOp .rem 3 (.tmp 28) (.const (.int .i64 10)) 3, none⟩,
      ⟨some 30, .move (.tmp 0), none⟩,
      ⟨some 31, .binOp .rem 3 (.tmp 30) (.const (.int .i64 10)) 3, none⟩,
      ⟨some 32, .binOp .add 3 (.tmp 31) (.const (.int .i64 1)) 3, none⟩,
      ⟨some 33, .slice 9 (.const (.string ⟨⟨[48, 49, 50, 51, 52, 53, 54, 55, 56, 57]⟩⟩)) (some (.tmp 29)) (some (.tmp 32)) none, none⟩,
      ⟨some 27, .call ⟨.value (.func 74), ⟨[(.tmp 26)]⟩, ⟨[3]⟩⟩, none⟩,
      ⟨some 34, .binOp .add 9 (.tmp 27) (.tmp 33) 9, none⟩,
      ⟨some 2, .assign (.tmp 34), none⟩])
    .ret))))
theorem F74 : IsFun Tryd.prog 74 h74 s74 [.tmp 2] 35 := ⟨_, Tryd.func74, by kernel_rfl, by kernel_rfl, by kernel_rfl, by kernel_rfl, by kernel_rfl⟩

/-- spec.l1Sum -/
def h98 : Hints := {}
def s98 : SC :=
(.seq (.reg [⟨some 2, .assign (.const (.int .i64 0)), none⟩])
 (.seq (.reg [⟨some 3, .assign (.const (.int .i64 7)), none⟩])
  (.seq (.seq (.reg [⟨some 4, .assign (.const (.int .i64 0)), none⟩])
    (.block 0 (.loop (.seq (.seq (.reg [⟨some 5, .move (.tmp 4), none⟩,
          ⟨some 6, .move (.tmp 0), none⟩,
          ⟨some 7, .call ⟨.builtin .len, ⟨[(.tmp 6)]⟩, ⟨[9]⟩⟩, none⟩,
          ⟨some 8, .binOp .lss 3 (.tmp 5) (.tmp 7) 3, none⟩])
        (.cond (.tmp 8)
         .skip
         (.exit 0)))
       (.seq (.block 1 (.reg [⟨some 11, .move (.tmp 3), none⟩,
           ⟨some 12, .binOp .mul 3 (.const (.int .i64 41)) (.tmp 11) 3, none⟩,
           ⟨some 13, .move (.tmp 0), none⟩,
           ⟨some 14, .move (.tmp 4), none⟩,
           ⟨some 15, .index 9 (.tmp 13) (.tmp 14), none⟩,
           ⟨some 16, .convert 5 3 (.tmp 15), none⟩,
           ⟨some 17, .binOp .add 3 (.tmp 12) (.tmp 16) 3, none⟩,
           ⟨some 18, .binOp .add 3 (.tmp 17) (.const (.int .i64 1)) 3, none⟩,
           ⟨some 19, .binOp .rem 3 (.tmp 18) (.const (.int .i64 999979)) 3, none⟩,
           ⟨some 3, .assign (.tmp 19), none⟩]))
        (.reg [⟨some 9, .move (.tmp 4), none⟩,
          ⟨some 10, .binOp .add 3 (.tmp 9) (.const (.int .i64 1)) 3, none⟩,
          ⟨some 4, .assign (.tmp 10), none⟩]))))))
   (.seq (.reg [⟨some 20, .move (.tmp 3), none⟩,
      ⟨some 2, .assign (.tmp 20), none⟩])
    .ret))))
theorem F98 : IsFun Tryd.prog 98 h98 s98 [.tmp 2] 21 := ⟨_, Tryd.func98, by kernel_rfl, by kernel_rfl, by kernel_rfl, by kernel_rfl, by kernel_rfl⟩

/-- spec.l1Seal -/
def h82 : Hints := {}
def s82 : SC :=
(.seq (.reg [⟨some 2, .assign (.const (.string ⟨⟨[]⟩⟩)), none⟩])
 (.seq (.reg [⟨some 3, .move (.tmp 0), none⟩,
    ⟨some 4, .binOp .add 9 (.tmp 3) (.const (.string ⟨⟨[35]⟩⟩)) 9, none⟩,
    ⟨some 5, .move (.tmp 0), none⟩,
    ⟨some 6, .call ⟨.value (.func 98), ⟨[(.tmp 5)]⟩, ⟨[9]⟩⟩, none⟩,
    ⟨some 7, .call ⟨.value (.func 74), ⟨[(.tmp 6)]⟩, ⟨[3]⟩⟩, none⟩,
    ⟨some 8, .binOp .add 9 (.tmp 4) (.tmp 7) 9, none⟩,
    ⟨some 2, .assign (.tmp 8), none⟩])
  .ret))
theorem F82 : IsFun Tryd.prog 82 h82 s82 [.tmp 2] 9 := ⟨_, Tryd.func82, by kernel_rfl, by kernel_rfl, by kernel_rfl, by kernel_rfl, by kernel_rfl⟩

/-- spec.l12Line -/
def h54 : Hints := { trs := [], cps := [4], refs := [] }
def s54 : SC :=
(.seq (.reg [⟨some 3, .box 25 (.tmp 1), none⟩,
   ⟨some 4, .assign (.const (.string ⟨⟨[]⟩⟩)), none⟩])
 (.seq (.regp [⟨some 5, .move (.tmp 0), none⟩,
    ⟨some 8, .fieldAddr 25 (.tmp 3) 0, none⟩,
    ⟨some 9, .load 9 (.tmp 8), none⟩,
    ⟨some 12, .fieldAddr 25 (.tmp 3) 1, none⟩,
    ⟨some 13, .load 9 (.tmp 12), none⟩,
    ⟨some 6, .call ⟨.value (.func 74), ⟨[(.tmp 5)]⟩, ⟨[3]⟩⟩, none⟩,
    ⟨some 7, .binOp .add 9 (.tmp 6) (.const (.string ⟨⟨[32]⟩⟩)) 9, none⟩,
    ⟨some 10, .binOp .add 9 (.tmp 7) (.tmp 9) 9, none⟩,
    ⟨some 11, .binOp .add 9 (.tmp 10) (.const (.string ⟨⟨[64]⟩⟩)) 9, none⟩,
    ⟨some 14, .binOp .add 9 (.tmp 11) (.tmp 13) 9, none⟩,
    ⟨some 15, .call ⟨.value (.func 82), ⟨[(.tmp 14)]⟩, ⟨[9]⟩⟩, none⟩,
    ⟨some 16, .binOp .add 9 (.tmp 15) (.const (.string ⟨⟨[10]⟩⟩)) 9, none⟩,
    ⟨some 4, .assign (.tmp 16), none⟩])
  .ret))
theorem F54 : IsFun Tryd.prog 54 h54 s54 [.tmp 4] 17 := ⟨_, Tryd.func54, by kernel_rfl, by kernel_rfl, by kernel_rfl, by kernel_rfl, by kernel_rfl⟩

/-- spec.EncodeRecord -/
def h12 : Hints := {}
def s12 : SC :=
(.seq (.reg [⟨some 3, .box 25 (.tmp 1), none⟩,
   ⟨some 4, .assign (.const (.string ⟨⟨[]⟩⟩)), none⟩,
   ⟨some 5, .assign (.const (.bool false)), none⟩])
 (.seq (.seq (.reg [⟨some 6, .move (.tmp 0), none⟩,
     ⟨some 7, .call ⟨.value (.func 52), ⟨[(.tmp 6), (.const (.int .i64 0)), (.const (.int .i64 59))]⟩, ⟨[3, 3, 3]⟩⟩, none⟩,
     ⟨some 8, .unOp .not 4 (.tmp 7), none⟩,
     ⟨some 9, .move (.tmp 8), none⟩,
     ⟨some 10, .load 25 (.tmp 3), some (9, false)⟩,
     ⟨some 11, .call ⟨.value (.func 53), ⟨[(.tmp 10)]⟩, ⟨[25]⟩⟩, some (9, false)⟩,
     ⟨some 12, .unOp .not 4 (.tmp 11), some (9, false)⟩,
     ⟨some 13, .pick (.tmp 9) (.const (.bool true)) (.tmp 12), none⟩])
   (.cond (.tmp 13)
    (.seq (.reg [⟨some 4, .assign (.const (.string ⟨⟨[]⟩⟩)), none⟩,
       ⟨some 5, .assign (.const (.bool false)), none⟩])
     .ret)
    .skip))
  (.seq (.reg [⟨some 14, .move (.tmp 0), none⟩,
     ⟨some 15, .load 25 (.tmp 3), none⟩,
     ⟨some 16, .call ⟨.value (.func 54), ⟨[(.tmp 14), (.tmp 15)]⟩, ⟨[3, 25]⟩⟩, none⟩,
     ⟨some 4, .assign (.tmp 16), none⟩,
     ⟨some 5, .assign (.const (.bool true)), none⟩])
   .ret)))
theorem F12 : IsFun Tryd.prog 12 h12 s12 [.tmp 4, .tmp 5] 17 := ⟨_, Tryd.func12, by kernel_rfl, by kernel_rfl, by kernel_rfl, by kernel_rfl, by kernel_rfl⟩

/-- spec.l1Split -/
def h88 : Hints := { trs := [20, 29], cps := [], refs := [] }
def s88 : SC :=
(.seq (.reg [⟨some 4, .assign (.const (.slice none 0 0)), none⟩])
 (.seq (.reg [⟨some 8, .buildSlice 101 0 ⟨[]⟩, none⟩,
    ⟨some 5, .assign (.tmp 8), none⟩])
  (.seq (.reg [⟨some 6, .assign (.const (.int .i64 0)), none⟩])
   (.seq (.seq (.reg [⟨some 7, .assign (.const (.int .i64 0)), none⟩])
     (.block 0 (.loop (.seq (.seq (.reg [⟨some 9, .move (.tmp 7), none⟩,
           ⟨some 10, .move (.tmp 0), none⟩,
           ⟨some 11, .call ⟨.builtin .len, ⟨[(.tmp 10)]⟩, ⟨[9]⟩⟩, none⟩,
           ⟨some 12, .binOp .lss 3 (.tmp 9) (.tmp 11) 3, none⟩])
         (.cond (.tmp 12)
          .skip
          (.exit 0)))
        (.seq (.block 1 (.seq (.reg [⟨some 15, .move (.tmp 0), none⟩,
             ⟨some 16, .move (.tmp 7), none⟩,
             ⟨some 17, .index 9 (.tmp 15) (.tmp 16), none⟩,
             ⟨some 18, .move (.tmp 1), none⟩,
             ⟨some 19, .binOp .eql 5 (.tmp 17) (.tmp 18) 5, none⟩])
           (.cond (.tmp 19)
            (.seq (.reg [⟨some 20, .move (.tmp 5), none⟩,
             ⟨some 21, .move (.tmp 0), none⟩,
             ⟨some 22, .move (.tmp 6), none⟩,
             ⟨some 23, .move (.tmp 7), none⟩,
             ⟨some 24, .slice 9 (.tmp 21) (some (.tmp 22)) (some (.tmp 23)) none, none⟩,
             ⟨some 25, .buildSlice 101 1 ⟨[(0, (.tmp 24))]⟩, none⟩,
             ⟨some 26, .call ⟨.builtin .append, ⟨[(.tmp 20), (.tmp 25)]⟩, ⟨[101, 101]⟩⟩, none⟩,
             ⟨some 5, .assign (.tmp 26), none⟩])
            (.reg [⟨some 27, .move (.tmp 7), none⟩,
             ⟨some 28, .binOp .add 3 (.tmp 27) (.const (.int .i64 1)) 3, none⟩,
             ⟨some 6, .assign (.tmp 28), none⟩]))
            .skip)))
         (.reg [⟨some 13, .move (.tmp 7), none⟩,
           ⟨some 14, .binOp .add 3 (.tmp 13) (.const (.int .i64 1)) 3, none⟩,
           ⟨some 7, .assign (.tmp 14), none⟩]))))))
    (.seq (.reg [⟨some 29, .move (.tmp 5), none⟩,
       ⟨some 30, .move (.tmp 0), none⟩,
       ⟨some 31, .move (.tmp 6), none⟩,
       ⟨some 32, .slice 9 (.tmp 30) (some (.tmp 31)) none none, none⟩,
       ⟨some 33, .buildSlice 101 1 ⟨[(0, (.tmp 32))]⟩, none⟩,
       ⟨some 34, .call ⟨.builtin .append, ⟨[(.tmp 29), (.tmp 33)]⟩, ⟨[101, 101]⟩⟩, none⟩,
       ⟨some 4, .assign (.tmp 34), none⟩])
     .ret)))))
theorem F88 : IsFun Tryd.prog 88 h88 s88 [.tmp 4] 35 := ⟨_, Tryd.func88, by kernel_rfl, by kernel_rfl, by kernel_rfl, by kernel_rfl, by kernel_rfl⟩

/-- spec.l12Decode -/
def h89 : Hints := { trs := [], cps := [5], refs := [] }
def s89 : SC :=
(.seq (.reg [⟨some 4, .alloc 25, none⟩,
   ⟨some 5, .assign (.const (.bool false)), none⟩])
 (.seq (.reg [⟨some 11, .move (.tmp 1), none⟩,
    ⟨some 12, .call ⟨.value (.func 74), ⟨[(.tmp 11)]⟩, ⟨[3]⟩⟩, none⟩,
    ⟨some 13, .binOp .add 9 (.tmp 12) (.const (.string ⟨⟨[32]⟩⟩)) 9, none⟩,
    ⟨some 6, .assign (.tmp 13), none⟩])
  (.seq (.reg [⟨some 14, .move (.tmp 0), none⟩,
     ⟨some 15, .call ⟨.value (.func 88), ⟨[(.tmp 14), (.const (.int .u8 35))]⟩, ⟨[9, 5]⟩⟩, none⟩,
     ⟨some 16, .indexAddr 101 (.tmp 15) (.const (.int .i64 0)), none⟩,
     ⟨some 17, .load 9 (.tmp 16), none⟩,
     ⟨some 7, .assign (.tmp 17), none⟩])
   (.seq (.seq (.reg [⟨some 18, .move (.tmp 7), none⟩,
       ⟨some 19, .call ⟨.builtin .len, ⟨[(.tmp 18)]⟩, ⟨[9]⟩⟩, none⟩,
       ⟨some 20, .move (.tmp 6), none⟩,
       ⟨some 21, .call ⟨.builtin .len, ⟨[(.tmp 20)]⟩, ⟨[9]⟩⟩, none⟩,
       ⟨some 22, .binOp .lss 3 (.tmp 19) (.tmp 21) 3, none⟩,
       ⟨some 23, .move (.tmp 22), none⟩,
       ⟨some 24, .move (.tmp 7), some (23, false)⟩,
       ⟨some 25, .move (.tmp 6), some (23, false)⟩,
       ⟨some 26, .call ⟨.builtin .len, ⟨[(.tmp 25)]⟩, ⟨[9]⟩⟩, some (23, false)⟩,
       ⟨some 27, .slice 9 (.tmp 24) none (some (.tmp 26)) none, some (23, false)⟩,
       ⟨some 28, .move (.tmp 6), some (23, false)⟩,
       ⟨some 29, .binOp .neq 9 (.tmp 27) (.tmp 28) 9, some (23, false)⟩,
       ⟨some 30, .pick (.tmp 23) (.const (.bool true)) (.tmp 29), none⟩])
     (.cond (.tmp 30)
      (.seq (.reg [⟨some 31, .build 25 ⟨[]⟩, none⟩,
         ⟨none, .store 25 (.tmp 4) (.tmp 31), none⟩,
         ⟨some 5, .assign (.const (.bool false)), none⟩])
       .ret)
      .skip))
    (.seq (.reg [⟨some 32, .move (.tmp 7), none⟩,
       ⟨some 33, .move (.tmp 6), none⟩,
       ⟨some 34, .call ⟨.builtin .len, ⟨[(.tmp 33)]⟩, ⟨[9]⟩⟩, none⟩,
       ⟨some 35, .slice 9 (.tmp 32) (some (.tmp 34)) none none, none⟩,
       ⟨some 8, .assign (.tmp 35), none⟩])
     (.seq (.reg [⟨some 36, .move (.tmp 8), none⟩,
        ⟨some 37, .call ⟨.value (.func 88), ⟨[(.tmp 36), (.const (.int .u8 64))]⟩, ⟨[9, 5]⟩⟩, none⟩,
        ⟨some 38, .indexAddr 101 (.tmp 37) (.const (.int .i64 0)), none⟩,
        ⟨some 39, .load 9 (.tmp 38), none⟩,
        ⟨some 9, .assign (.tmp 39), none⟩])
      (.seq (.seq (.reg [⟨some 40, .move (.tmp 9), none⟩,
          ⟨some 41, .call ⟨.builtin .len, ⟨[(.tmp 40)]⟩, ⟨[9]⟩⟩, none⟩,
          ⟨some 42, .move (.tmp 8), none⟩,
          ⟨some 43, .call ⟨.builtin .len, ⟨[(.tmp 42)]⟩, ⟨[9]⟩⟩, none⟩,
          ⟨some 44, .binOp .eql 3 (.tmp 41) (.tmp 43) 3, none⟩])
        (.cond (.tmp 44)
         (.seq (.reg [⟨some 45, .build 25 ⟨[]⟩, none⟩,
            ⟨none, .store 25 (.tmp 4) (.tmp 45), none⟩,
            ⟨some 5, .assign (.const (.bool false)), none⟩])
          .ret)
         .skip))
       (.seq (.reg [⟨some 46, .move (.tmp 9), none⟩,
          ⟨some 47, .move (.tmp 8), none⟩,
          ⟨some 48, .move (.tmp 9), none⟩,
          ⟨some 49, .call ⟨.builtin .len, ⟨[(.tmp 48)]⟩, ⟨[9]⟩⟩, none⟩,
          ⟨some 50, .binOp .add 3 (.tmp 49) (.const (.int .i64 1)) 3, none⟩,
          ⟨some 51, .slice 9 (.tmp 47) (some (.tmp 50)) none none, none⟩,
          ⟨some 52, .build 25 ⟨[(0, (.tmp 46)), (1, (.tmp 51))]⟩, none⟩,
          ⟨some 10, .alloc 25, none⟩,
          ⟨none, .store 25 (.tmp 10) (.tmp 52), none⟩])
        (.seq (.regp [⟨some 53, .load 25 (.tmp 10), none⟩,
           ⟨some 54, .load 25 (.tmp 10), none⟩,
           ⟨some 55, .call ⟨.value (.func 53), ⟨[(.tmp 54)]⟩, ⟨[25]⟩⟩, none⟩,
           ⟨some 56, .move (.tmp 55), none⟩,
           ⟨some 57, .move (.tmp 1), some (56, true)⟩,
           ⟨some 60, .move (.tmp 0), some (56, true)⟩,
           ⟨some 61, .binOp .add 9 (.tmp 60) (.const (.string ⟨⟨[10]⟩⟩)) 9, some (56, true)⟩,
           ⟨some 58, .load 25 (.tmp 10), some (56, true)⟩,
           ⟨some 59, .call ⟨.value (.func 54), ⟨[(.tmp 57), (.tmp 58)]⟩, ⟨[3, 25]⟩⟩, some (56, true)⟩,
           ⟨some 62, .binOp .eql 9 (.tmp 59) (.tmp 61) 9, some (56, true)⟩,
           ⟨some 63, .pick (.tmp 56) (.tmp 62) (.const (.bool false)), none⟩,
           ⟨none, .store 25 (.tmp 4) (.tmp 53), none⟩,
           ⟨some 5, .assign (.tmp 63), none⟩])
         .ret)))))))))
theorem F89 : IsFun Tryd.prog 89 h89 s89 [.cell 4 25, .tmp 5] 64 := ⟨_, Tryd.func89, by kernel_rfl, by kernel_rfl, by kernel_rfl, by kernel_rfl, by kernel_rfl⟩

/-- spec.l12Open -/
def h63 : Hints := { trs := [39, 50], cps := [], refs := [] }
def s63 : SC :=
(.seq (.reg [⟨some 2, .assign (.const (.slice none 0 0)), none⟩,
   ⟨some 3, .assign (.const (.int .i64 0)), none⟩])
 (.seq (.reg [⟨some 9, .buildSlice 43 0 ⟨[]⟩, none⟩,
    ⟨some 4, .assign (.tmp 9), none⟩])
  (.seq (.reg [⟨some 5, .assign (.const (.int .i64 0)), none⟩])
   (.seq (.block 0 (.loop (.seq (.seq (.reg [⟨some 10, .move (.tmp 5), none⟩,
          ⟨some 11, .move (.tmp 0), none⟩,
          ⟨some 12, .call ⟨.builtin .len, ⟨[(.tmp 11)]⟩, ⟨[9]⟩⟩, none⟩,
          ⟨some 13, .binOp .lss 3 (.tmp 10) (.tmp 12) 3, none⟩,
          ⟨some 14, .move (.tmp 13), none⟩,
          ⟨some 15, .move (.tmp 4), some (14, true)⟩,
          ⟨some 16, .call ⟨.builtin .len, ⟨[(.tmp 15)]⟩, ⟨[43]⟩⟩, some (14, true)⟩,
          ⟨some 17, .binOp .lss 3 (.tmp 16) (.const (.int .i64 60)) 3, some (14, true)⟩,
          ⟨some 18, .pick (.tmp 14) (.tmp 17) (.const (.bool false)), none⟩])
        (.cond (.tmp 18)
         .skip
         (.exit 0)))
       (.block 1 (.seq (.reg [⟨some 19, .move (.tmp 0), none⟩,
           ⟨some 20, .move (.tmp 5), none⟩,
           ⟨some 21, .slice 9 (.tmp 19) (some (.tmp 20)) none none, none⟩,
           ⟨some 22, .call ⟨.value (.func 88), ⟨[(.tmp 21), (.const (.int .u8 10))]⟩, ⟨[9, 5]⟩⟩, none⟩,
           ⟨some 6, .assign (.tmp 22), none⟩])
         (.seq (.reg [⟨some 24, .move (.tmp 6), none⟩,
            ⟨some 25, .indexAddr 101 (.tmp 24) (.const (.int .i64 0)), none⟩,
            ⟨some 26, .load 9 (.tmp 25), none⟩,
            ⟨some 27, .move (.tmp 4), none⟩,
            ⟨some 28, .call ⟨.builtin .len, ⟨[(.tmp 27)]⟩, ⟨[43]⟩⟩, none⟩,
            ⟨some 29, .call ⟨.value (.func 89), ⟨[(.tmp 26), (.tmp 28)]⟩, ⟨[9, 3]⟩⟩, none⟩,
            ⟨some 23, .move (.tmp 29), none⟩,
            ⟨some 30, .extract (.tmp 23) 0, none⟩,
            ⟨some 31, .extract (.tmp 23) 1, none⟩,
            ⟨some 7, .alloc 25, none⟩,
            ⟨none, .store 25 (.tmp 7) (.tmp 30), none⟩,
            ⟨some 8, .assign (.tmp 31), none⟩])
          (.seq (.seq (.reg [⟨some 32, .move (.tmp 6), none⟩,
             ⟨some 33, .call ⟨.builtin .len, ⟨[(.tmp 32)]⟩, ⟨[101]⟩⟩, none⟩,
             ⟨some 34, .binOp .lss 3 (.tmp 33) (.const (.int .i64 2)) 3, none⟩,
             ⟨some 35, .move (.tmp 34), none⟩,
             ⟨some 36, .move (.tmp 8), some (35, false)⟩,
             ⟨some 37, .unOp .not 4 (.tmp 36), some (35, false)⟩,
             ⟨some 38, .pick (.tmp 35) (.const (.bool true)) (.tmp 37), none⟩])
            (.cond (.tmp 38)
            (.exit 0)
            .skip))
           (.seq (.reg [⟨some 39, .move (.tmp 4), none⟩,
             ⟨some 40, .load 25 (.tmp 7), none⟩,
             ⟨some 41, .buildSlice 43 1 ⟨[(0, (.tmp 40))]⟩, none⟩,
             ⟨some 42, .call ⟨.builtin .append, ⟨[(.tmp 39), (.tmp 41)]⟩, ⟨[43, 43]⟩⟩, none⟩,
             ⟨some 4, .assign (.tmp 42), none⟩])
            (.reg [⟨some 43, .move (.tmp 5), none⟩,
             ⟨some 44, .move (.tmp 6), none⟩,
             ⟨some 45, .indexAddr 101 (.tmp 44) (.const (.int .i64 0)), none⟩,
             ⟨some 46, .load 9 (.tmp 45), none⟩,
             ⟨some 47, .call ⟨.builtin .len, ⟨[(.tmp 46)]⟩, ⟨[9]⟩⟩, none⟩,
             ⟨some 48, .binOp .add 3 (.tmp 43) (.tmp 47) 3, none⟩,
             ⟨some 49, .binOp .add 3 (.tmp 48) (.const (.int .i64 1)) 3, none⟩,
             ⟨some 5, .assign (.tmp 49), none⟩])))))))))
    (.seq (.reg [⟨some 50, .move (.tmp 4), none⟩,
       ⟨some 51, .move (.tmp 5), none⟩,
       ⟨some 2, .assign (.tmp 50), none⟩,
       ⟨some 3, .assign (.tmp 51), none⟩])
     .ret)))))
theorem F63 : IsFun Tryd.prog 63 h63 s63 [.tmp 2, .tmp 3] 52 := ⟨_, Tryd.func63, by kernel_rfl, by kernel_rfl, by kernel_rfl, by kernel_rfl, by kernel_rfl⟩

/-- spec.l12Valid -/
def h58 : Hints := {}
def s58 : SC :=
(.seq (.reg [⟨some 1, .box 33 (.tmp 0), none⟩,
   ⟨some 2, .assign (.const (.bool false)), none⟩])
 (.seq (.seq (.reg [⟨some 7, .fieldAddr 33 (.tmp 1) 0, none⟩,
     ⟨some 8, .load 9 (.tmp 7), none⟩,
     ⟨some 9, .call ⟨.builtin .len, ⟨[(.tmp 8)]⟩, ⟨[9]⟩⟩, none⟩,
     ⟨some 10, .fieldAddr 33 (.tmp 1) 1, none⟩,
     ⟨some 11, .load 9 (.tmp 10), none⟩,
     ⟨some 12, .call ⟨.builtin .len, ⟨[(.tmp 11)]⟩, ⟨[9]⟩⟩, none⟩,
     ⟨some 13, .binOp .add 3 (.tmp 9) (.tmp 12) 3, none⟩,
     ⟨some 14, .binOp .gtr 3 (.tmp 13) (.const (.int .i64 30000)) 3, none⟩])
   (.cond (.tmp 14)
    (.seq (.reg [⟨some 2, .assign (.const (.bool false)), none⟩])
     .ret)
    .skip))
  (.seq (.reg [⟨some 16, .fieldAddr 33 (.tmp 1) 0, none⟩,
     ⟨some 17, .load 9 (.tmp 16), none⟩,
     ⟨some 18, .fieldAddr 33 (.tmp 1) 1, none⟩,
     ⟨some 19, .load 9 (.tmp 18), none⟩,
     ⟨some 20, .binOp .add 9 (.tmp 17) (.tmp 19) 9, none⟩,
     ⟨some 21, .call ⟨.value (.func 63), ⟨[(.tmp 20)]⟩, ⟨[9]⟩⟩, none⟩,
     ⟨some 15, .move (.tmp 21), none⟩,
     ⟨some 22, .extract (.tmp 15) 0, none⟩,
     ⟨some 23, .extract (.tmp 15) 1, none⟩,
     ⟨some 3, .assign (.tmp 22), none⟩,
     ⟨some 4, .assign (.tmp 23), none⟩])
   (.seq (.reg [⟨some 25, .fieldAddr 33 (.tmp 1) 0, none⟩,
      ⟨some 26, .load 9 (.tmp 25), none⟩,
      ⟨some 27, .call ⟨.value (.func 63), ⟨[(.tmp 26)]⟩, ⟨[9]⟩⟩, none⟩,
      ⟨some 24, .move (.tmp 27), none⟩,
      ⟨some 28, .extract (.tmp 24) 0, none⟩,
      ⟨some 29, .extract (.tmp 24) 1, none⟩,
      ⟨some 5, .assign (.tmp 28), none⟩,
      ⟨some 6, .assign (.tmp 29), none⟩])
    (.seq (.reg [⟨some 30, .move (.tmp 4), none⟩,
       ⟨some 31, .fieldAddr 33 (.tmp 1) 0, none⟩,
       ⟨some 32, .load 9 (.tmp 31), none⟩,
       ⟨some 33, .call ⟨.builtin .len, ⟨[(.tmp 32)]⟩, ⟨[9]⟩⟩, none⟩,
       ⟨some 34, .fieldAddr 33 (.tmp 1) 1, none⟩,
       ⟨some 35, .load 9 (.tmp 34), none⟩,
       ⟨some 36, .call ⟨.builtin .len, ⟨[(.tmp 35)]⟩, ⟨[9]⟩⟩, none⟩,
       ⟨some 37, .binOp .add 3 (.tmp 33) (.tmp 36) 3, none⟩,
       ⟨some 38, .binOp .eql 3 (.tmp 30) (.tmp 37) 3, none⟩,
       ⟨some 39, .move (.tmp 38), none⟩,
       ⟨some 40, .move (.tmp 6), some (39, true)⟩,
       ⟨some 41, .fieldAddr 33 (.tmp 1) 0, some (39, true)⟩,
       ⟨some 42, .load 9 (.tmp 41), some (39, true)⟩,
       ⟨some 43, .call ⟨.builtin .len, ⟨[(.tmp 42)]⟩, ⟨[9]⟩⟩, some (39, true)⟩,
       ⟨some 44, .binOp .eql 3 (.tmp 40) (.tmp 43) 3, some (39, true)⟩,
       ⟨some 45, .pick (.tmp 39) (.tmp 44) (.const (.bool false)), none⟩,
       ⟨some 46, .move (.tmp 45), none⟩,
       ⟨some 47, .move (.tmp 3), some (46, true)⟩,
       ⟨some 48, .call ⟨.builtin .len, ⟨[(.tmp 47)]⟩, ⟨[43]⟩⟩, some (46, true)⟩,
       ⟨some 49, .fieldAddr 33 (.tmp 1) 2, some (46, true)⟩,
       ⟨some 50, .load 3 (.tmp 49), some (46, true)⟩,
       ⟨some 51, .binOp .eql 3 (.tmp 48) (.tmp 50) 3, some (46, true)⟩,
       ⟨some 52, .pick (.tmp 46) (.tmp 51) (.const (.bool false)), none⟩,
       ⟨some 2, .assign (.tmp 52), none⟩])
     .ret)))))
theorem F58 : IsFun Tryd.prog 58 h58 s58 [.tmp 2] 53 := ⟨_, Tryd.func58, by kernel_rfl, by kernel_rfl, by kernel_rfl, by kernel_rfl, by kernel_rfl⟩

/-- spec.AppendRecord -/
def h16 : Hints := {}
def s16 : SC :=
(.seq (.reg [⟨some 2, .box 33 (.tmp 0), none⟩,
   ⟨some 3, .box 25 (.tmp 1), none⟩,
   ⟨some 4, .alloc 33, none⟩,
   ⟨some 5, .assign (.const (.int .i64 0)), none⟩])
 (.seq (.seq (.reg [⟨some 6, .load 33 (.tmp 2), none⟩,
     ⟨some 7, .call ⟨.value (.func 58), ⟨[(.tmp 6)]⟩, ⟨[33]⟩⟩, none⟩,
     ⟨some 8, .unOp .not 4 (.tmp 7), none⟩,
     ⟨some 9, .move (.tmp 8), none⟩,
     ⟨some 10, .load 25 (.tmp 3), some (9, false)⟩,
     ⟨some 11, .call ⟨.value (.func 53), ⟨[(.tmp 10)]⟩, ⟨[25]⟩⟩, some (9, false)⟩,
     ⟨some 12, .unOp .not 4 (.tmp 11), some (9, false)⟩,
     ⟨some 13, .pick (.tmp 9) (.const (.bool true)) (.tmp 12), none⟩])
   (.cond (.tmp 13)
    (.seq (.reg [⟨some 14, .load 33 (.tmp 2), none⟩,
       ⟨none, .store 33 (.tmp 4) (.tmp 14), none⟩,
       ⟨some 5, .assign (.const (.int .i64 1)), none⟩])
     .ret)
    .skip))
  (.seq (.seq (.reg [⟨some 15, .fieldAddr 33 (.tmp 2) 2, none⟩,
      ⟨some 16, .load 3 (.tmp 15), none⟩,
      ⟨some 17, .binOp .eql 3 (.tmp 16) (.const (.int .i64 60)) 3, none⟩])
    (.cond (.tmp 17)
     (.seq (.reg [⟨some 18, .load 33 (.tmp 2), none⟩,
        ⟨none, .store 33 (.tmp 4) (.tmp 18), none⟩,
        ⟨some 5, .assign (.const (.int .i64 2)), none⟩])
      .ret)
     .skip))
   (.seq (.regp [⟨some 19, .fieldAddr 33 (.tmp 2) 1, none⟩,
      ⟨some 20, .load 9 (.tmp 19), none⟩,
      ⟨some 21, .fieldAddr 33 (.tmp 2) 2, none⟩,
      ⟨some 22, .load 3 (.tmp 21), none⟩,
      ⟨some 23, .load 25 (.tmp 3), none⟩,
      ⟨some 24, .call ⟨.value (.func 54), ⟨[(.tmp 22), (.tmp 23)]⟩, ⟨[3, 25]⟩⟩, none⟩,
      ⟨some 25, .binOp .add 9 (.tmp 20) (.tmp 24) 9, none⟩,
      ⟨some 26, .fieldAddr 33 (.tmp 2) 1, none⟩,
      ⟨none, .store 9 (.tmp 26) (.tmp 25), none⟩])
    (.seq (.reg [⟨some 27, .fieldAddr 33 (.tmp 2) 2, none⟩,
       ⟨some 28, .load 3 (.tmp 27), none⟩,
       ⟨some 29, .binOp .add 3 (.tmp 28) (.const (.int .i64 1)) 3, none⟩,
       ⟨some 30, .fieldAddr 33 (.tmp 2) 2, none⟩,
       ⟨none, .store 3 (.tmp 30) (.tmp 29), none⟩])
     (.seq (.reg [⟨some 31, .load 33 (.tmp 2), none⟩,
        ⟨none, .store 33 (.tmp 4) (.tmp 31), none⟩,
        ⟨some 5, .assign (.const (.int .i64 0)), none⟩])
      .ret))))))
theorem F16 : IsFun Tryd.prog 16 h16 s16 [.cell 4 33, .tmp 5] 32 := ⟨_, Tryd.func16, by kernel_rfl, by kernel_rfl, by kernel_rfl, by kernel_rfl, by kernel_rfl⟩

/-- spec.SyncLog -/
def h22 : Hints := {}
def s22 : SC :=
(.seq (.reg [⟨some 1, .box 33 (.tmp 0), none⟩,
   ⟨some 2, .alloc 33, none⟩,
   ⟨some 3, .assign (.const (.bool false)), none⟩])
 (.seq (.seq (.reg [⟨some 4, .load 33 (.tmp 1), none⟩,
     ⟨some 5, .call ⟨.value (.func 58), ⟨[(.tmp 4)]⟩, ⟨[33]⟩⟩, none⟩,
     ⟨some 6, .unOp .not 4 (.tmp 5), none⟩])
   (.cond (.tmp 6)
    (.seq (.reg [⟨some 7, .build 33 ⟨[]⟩, none⟩,
       ⟨none, .store 33 (.tmp 2) (.tmp 7), none⟩,
       ⟨some 3, .assign (.const (.bool false)), none⟩])
     .ret)
    .skip))
  (.seq (.reg [⟨some 8, .fieldAddr 33 (.tmp 1) 0, none⟩,
     ⟨some 9, .load 9 (.tmp 8), none⟩,
     ⟨some 10, .fieldAddr 33 (.tmp 1) 1, none⟩,
     ⟨some 11, .load 9 (.tmp 10), none⟩,
     ⟨some 12, .binOp .add 9 (.tmp 9) (.tmp 11) 9, none⟩,
     ⟨some 13, .fieldAddr 33 (.tmp 1) 2, none⟩,
     ⟨some 14, .load 3 (.tmp 13), none⟩,
     ⟨some 15, .build 33 ⟨[(0, (.tmp 12)), (2, (.tmp 14))]⟩, none⟩,
     ⟨none, .store 33 (.tmp 2) (.tmp 15), none⟩,
     ⟨some 3, .assign (.const (.bool true)), none⟩])
   .ret)))
theorem F22 : IsFun Tryd.prog 22 h22 s22 [.cell 2 33, .tmp 3] 16 := ⟨_, Tryd.func22, by kernel_rfl, by kernel_rfl, by kernel_rfl, by kernel_rfl, by kernel_rfl⟩

/-- (*spec.l1Cur).one -/
def h56 : Hints := { trs := [], cps := [], refs := [], tree := true }
def s56 : SC :=
(.seq (.reg [⟨some 4, .assign (.const (.bool false)), none⟩])
 (.seq (.reg [⟨some 5, .move (.tmp 0), none⟩,
    ⟨some 6, .move (.tmp 1), none⟩,
    ⟨some 7, .call ⟨.value (.func 57), ⟨[(.tmp 5), (.tmp 6)]⟩, ⟨[72, 3]⟩⟩, none⟩,
    ⟨some 8, .binOp .eql 3 (.tmp 7) (.const (.int .i64 0)) 3, none⟩,
    ⟨some 4, .assign (.tmp 8), none⟩])
  .ret))
theorem F56 : IsFun Tryd.prog 56 h56 s56 [.tmp 4] 9 := ⟨_, Tryd.func56, by kernel_rfl, by kernel_rfl, by kernel_rfl, by kernel_rfl, by kernel_rfl⟩

/-- (*spec.l1Cur).log12 -/
def h64 : Hints := { trs := [], cps := [], refs := [], tree := true }
def s64 : SC :=
(.seq (.reg [⟨some 2, .alloc 33, none⟩])
 (.seq (.reg [⟨some 5, .build 33 ⟨[]⟩, none⟩,
    ⟨some 3, .alloc 33, none⟩,
    ⟨none, .store 33 (.tmp 3) (.tmp 5), none⟩])
  (.seq (.seq (.reg [⟨some 6, .move (.tmp 0), none⟩,
      ⟨some 7, .call ⟨.value (.func 57), ⟨[(.tmp 6), (.const (.int .i64 7))]⟩, ⟨[72, 3]⟩⟩, none⟩,
      ⟨some 4, .assign (.tmp 7), none⟩])
    (.block 0 (.loop (.seq (.seq (.reg [⟨some 8, .move (.tmp 4), none⟩,
          ⟨some 9, .binOp .gtr 3 (.tmp 8) (.const (.int .i64 0)) 3, none⟩])
        (.cond (.tmp 9)
         .skip
         (.exit 0)))
       (.seq (.block 1 (.seq (.regt (.op ⟨some 14, .move (.tmp 0), none⟩
           (.br (.op ⟨some 13, .load 33 (.tmp 3), none⟩
            (.op ⟨some 15, .call ⟨.value (.func 48), ⟨[(.tmp 14)]⟩, ⟨[72]⟩⟩, none⟩
            (.op ⟨some 16, .call ⟨.value (.func 16), ⟨[(.tmp 13), (.tmp 15)]⟩, ⟨[33, 25]⟩⟩, none⟩
            (.op ⟨some 12, .move (.tmp 16), none⟩
            (.op ⟨some 17, .extract (.tmp 12) 0, none⟩
            (.op ⟨some 18, .extract (.tmp 12) 1, none⟩
            (.op ⟨none, .store 33 (.tmp 3) (.tmp 17), none⟩
            .done)))))))
            (.op ⟨some 15, .call ⟨.value (.func 48), ⟨[(.tmp 14)]⟩, ⟨[72]⟩⟩, none⟩
            (.op ⟨some 13, .load 33 (.tmp 3), none⟩
            (.op ⟨some 16, .call ⟨.value (.func 16), ⟨[(.tmp 13), (.tmp 15)]⟩, ⟨[33, 25]⟩⟩, none⟩
            (.op ⟨some 12, .move (.tmp 16), none⟩
            (.op ⟨some 17, .extract (.tmp 12) 0, none⟩
            (.op ⟨some 18, .extract (.tmp 12) 1, none⟩
            (.op ⟨none, .store 33 (.tmp 3) (.tmp 17), none⟩
            .done))))))))))
          (.seq (.reg [⟨some 19, .move (.tmp 0), none⟩,
             ⟨some 20, .call ⟨.value (.func 56), ⟨[(.tmp 19), (.const (.int .i64 4))]⟩, ⟨[72, 3]⟩⟩, none⟩])
           (.cond (.tmp 20)
            (.reg [⟨some 22, .load 33 (.tmp 3), none⟩,
             ⟨some 23, .call ⟨.value (.func 22), ⟨[(.tmp 22)]⟩, ⟨[33]⟩⟩, none⟩,
             ⟨some 21, .move (.tmp 23), none⟩,
             ⟨some 24, .extract (.tmp 21) 0, none⟩,
             ⟨some 25, .extract (.tmp 21) 1, none⟩,
             ⟨none, .store 33 (.tmp 3) (.tmp 24), none⟩])
            .skip))))
        (.reg [⟨some 10, .move (.tmp 4), none⟩,
          ⟨some 11, .binOp .sub 3 (.tmp 10) (.const (.int .i64 1)) 3, none⟩,
          ⟨some 4, .assign (.tmp 11), none⟩]))))))
   (.seq (.reg [⟨some 26, .load 33 (.tmp 3), none⟩,
      ⟨none, .store 33 (.tmp 2) (.tmp 26), none⟩])
    .ret))))
theorem F64 : IsFun Tryd.prog 64 h64 s64 [.cell 2 33] 27 := ⟨_, Tryd.func64, by kernel_rfl, by kernel_rfl, by kernel_rfl, by kernel_rfl, by kernel_rfl⟩

end Go.Proofs.YtgnebanjejmckaaDoor
