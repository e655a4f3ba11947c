/- Facts on the types of the program. -/
import Derived.Test.YtgnebanjejmckaaDoorProg
import Derived.Test.YtgnebanjejmckaaDoorDs
import Derived.KernelRfl
namespace Go.Proofs.YtgnebanjejmckaaDoor
open Go Dl
theorem tc3 : Program.cellsOf Tryd.prog 3 = 1 := by kernel_rfl
theorem tb3 : Program.bytesOf Tryd.prog 3 = 8 := by kernel_rfl
theorem tk3 : known Tryd.prog 3 = true := by kernel_rfl
theorem ta3 : aggB Tryd.prog 3 = false := by kernel_rfl
theorem tn3 : kindOf Tryd.prog 3 = some .i64 := by kernel_rfl
theorem tr3 : arE Tryd.prog 3 = none := by kernel_rfl
theorem te3 : fieldsOf Tryd.prog 3 = none := by kernel_rfl
theorem tq3 : arrEq Tryd.prog 3 = none := by kernel_rfl
theorem tz3 : zeroD Tryd.prog 3 = some [.int .i64 0] := by kernel_rfl
theorem to3 : zeroOk Tryd.prog 3 = true := by kernel_rfl
theorem tc4 : Program.cellsOf Tryd.prog 4 = 1 := by kernel_rfl
theorem tb4 : Program.bytesOf Tryd.prog 4 = 1 := by kernel_rfl
theorem tk4 : known Tryd.prog 4 = true := by kernel_rfl
theorem ta4 : aggB Tryd.prog 4 = false := by kernel_rfl
theorem tv4 : isBool Tryd.prog 4 = true := by kernel_rfl
theorem tr4 : arE Tryd.prog 4 = none := by kernel_rfl
theorem te4 : fieldsOf Tryd.prog 4 = none := by kernel_rfl
theorem tq4 : arrEq Tryd.prog 4 = none := by kernel_rfl
theorem tz4 : zeroD Tryd.prog 4 = some [.bool false] := by kernel_rfl
theorem to4 : zeroOk Tryd.prog 4 = true := by kernel_rfl
theorem tc5 : Program.cellsOf Tryd.prog 5 = 1 := by kernel_rfl
theorem tb5 : Program.bytesOf Tryd.prog 5 = 1 := by kernel_rfl
theorem tk5 : known Tryd.prog 5 = true := by kernel_rfl
theorem ta5 : aggB Tryd.prog 5 = false := by kernel_rfl
theorem tn5 : kindOf Tryd.prog 5 = some .u8 := by kernel_rfl
theorem tr5 : arE Tryd.prog 5 = none := by kernel_rfl
theorem te5 : fieldsOf Tryd.prog 5 = none := by kernel_rfl
theorem tq5 : arrEq Tryd.prog 5 = none := by kernel_rfl
theorem tz5 : zeroD Tryd.prog 5 = some [.int .u8 0] := by kernel_rfl
theorem to5 : zeroOk Tryd.prog 5 = true := by kernel_rfl
theorem tc9 : Program.cellsOf Tryd.prog 9 = 1 := by kernel_rfl
theorem tb9 : Program.bytesOf Tryd.prog 9 = 16 := by kernel_rfl
theorem tk9 : known Tryd.prog 9 = true := by kernel_rfl
theorem ta9 : aggB Tryd.prog 9 = false := by kernel_rfl
theorem tx9 : isStr Tryd.prog 9 = true := by kernel_rfl
theorem tr9 : arE Tryd.prog 9 = none := by kernel_rfl
theorem te9 : fieldsOf Tryd.prog 9 = none := by kernel_rfl
theorem tq9 : arrEq Tryd.prog 9 = none := by kernel_rfl
theorem tz9 : zeroD Tryd.prog 9 = some [.str []] := by kernel_rfl
theorem to9 : zeroOk Tryd.prog 9 = true := by kernel_rfl
theorem tc22 : Program.cellsOf Tryd.prog 22 = 1 := by kernel_rfl
theorem tb22 : Program.bytesOf Tryd.prog 22 = 24 := by kernel_rfl
theorem tk22 : known Tryd.prog 22 = true := by kernel_rfl
theorem ta22 : aggB Tryd.prog 22 = false := by kernel_rfl
theorem ts22 : slE Tryd.prog 22 = some 5 := by kernel_rfl
theorem tr22 : arE Tryd.prog 22 = none := by kernel_rfl
theorem tq22 : arrEq Tryd.prog 22 = none := by kernel_rfl
theorem tz22 : zeroD Tryd.prog 22 = some [.lst .exact []] := by kernel_rfl
theorem to22 : zeroOk Tryd.prog 22 = true := by kernel_rfl
theorem tc25 : Program.cellsOf Tryd.prog 25 = 2 := by kernel_rfl
theorem tb25 : Program.bytesOf Tryd.prog 25 = 32 := by kernel_rfl
theorem tk25 : known Tryd.prog 25 = true := by kernel_rfl
theorem ta25 : aggB Tryd.prog 25 = true := by kernel_rfl
theorem tr25 : arE Tryd.prog 25 = none := by kernel_rfl
theorem tf25_0 : fieldOf Tryd.prog 25 0 = some (0, 9) := by kernel_rfl
theorem tf25_1 : fieldOf Tryd.prog 25 1 = some (1, 9) := by kernel_rfl
theorem tfk25 : fieldsKnown Tryd.prog 25 = true := by kernel_rfl
theorem te25 : fieldsOf Tryd.prog 25 = some [(0, 9), (1, 9)] := by kernel_rfl
theorem tq25 : arrEq Tryd.prog 25 = none := by kernel_rfl
theorem tz25 : zeroD Tryd.prog 25 = some [.str [], .str []] := by kernel_rfl
theorem to25 : zeroOk Tryd.prog 25 = true := by kernel_rfl
theorem tc33 : Program.cellsOf Tryd.prog 33 = 3 := by kernel_rfl
theorem tb33 : Program.bytesOf Tryd.prog 33 = 40 := by kernel_rfl
theorem tk33 : known Tryd.prog 33 = true := by kernel_rfl
theorem ta33 : aggB Tryd.prog 33 = true := by kernel_rfl
theorem tr33 : arE Tryd.prog 33 = none := by kernel_rfl
theorem tf33_0 : fieldOf Tryd.prog 33 0 = some (0, 9) := by kernel_rfl
theorem tf33_1 : fieldOf Tryd.prog 33 1 = some (1, 9) := by kernel_rfl
theorem tf33_2 : fieldOf Tryd.prog 33 2 = some (2, 3) := by kernel_rfl
theorem tfk33 : fieldsKnown Tryd.prog 33 = true := by kernel_rfl
theorem te33 : fieldsOf Tryd.prog 33 = some [(0, 9), (1, 9), (2, 3)] := by kernel_rfl
theorem tq33 : arrEq Tryd.prog 33 = none := by kernel_rfl
theorem tz33 : zeroD Tryd.prog 33 = some [.str [], .str [], .int .i64 0] := by kernel_rfl
theorem to33 : zeroOk Tryd.prog 33 = true := by kernel_rfl
theorem tc43 : Program.cellsOf Tryd.prog 43 = 1 := by kernel_rfl
theorem tb43 : Program.bytesOf Tryd.prog 43 = 24 := by kernel_rfl
theorem tk43 : known Tryd.prog 43 = true := by kernel_rfl
theorem ta43 : aggB Tryd.prog 43 = false := by kernel_rfl
theorem ts43 : slE Tryd.prog 43 = some 25 := by kernel_rfl
theorem tr43 : arE Tryd.prog 43 = none := by kernel_rfl
theorem tq43 : arrEq Tryd.prog 43 = none := by kernel_rfl
theorem tz43 : zeroD Tryd.prog 43 = some [.lst .exact []] := by kernel_rfl
theorem to43 : zeroOk Tryd.prog 43 = true := by kernel_rfl
theorem tc52 : Program.cellsOf Tryd.prog 52 = 1 := by kernel_rfl
theorem tb52 : Program.bytesOf Tryd.prog 52 = 24 := by kernel_rfl
theorem tk52 : known Tryd.prog 52 = true := by kernel_rfl
theorem ta52 : aggB Tryd.prog 52 = false := by kernel_rfl
theorem ts52 : slE Tryd.prog 52 = some 127 := by kernel_rfl
theorem tr52 : arE Tryd.prog 52 = none := by kernel_rfl
theorem tq52 : arrEq Tryd.prog 52 = none := by kernel_rfl
theorem tz52 : zeroD Tryd.prog 52 = some [.lst .exact []] := by kernel_rfl
theorem to52 : zeroOk Tryd.prog 52 = true := by kernel_rfl
theorem tc54 : Program.cellsOf Tryd.prog 54 = 3 := by kernel_rfl
theorem tb54 : Program.bytesOf Tryd.prog 54 = 40 := by kernel_rfl
theorem tk54 : known Tryd.prog 54 = true := by kernel_rfl
theorem ta54 : aggB Tryd.prog 54 = true := by kernel_rfl
theorem tr54 : arE Tryd.prog 54 = none := by kernel_rfl
theorem tf54_0 : fieldOf Tryd.prog 54 0 = some (0, 52) := by kernel_rfl
theorem tf54_1 : fieldOf Tryd.prog 54 1 = some (1, 3) := by kernel_rfl
theorem tf54_2 : fieldOf Tryd.prog 54 2 = some (2, 3) := by kernel_rfl
theorem tfk54 : fieldsKnown Tryd.prog 54 = true := by kernel_rfl
theorem tq54 : arrEq Tryd.prog 54 = none := by kernel_rfl
theorem tz54 : zeroD Tryd.prog 54 = some [.lst .no [], .int .i64 0, .int .i64 0] := by kernel_rfl
theorem to54 : zeroOk Tryd.prog 54 = true := by kernel_rfl
theorem tc55 : Program.cellsOf Tryd.prog 55 = 3 := by kernel_rfl
theorem tb55 : Program.bytesOf Tryd.prog 55 = 40 := by kernel_rfl
theorem tk55 : known Tryd.prog 55 = true := by kernel_rfl
theorem ta55 : aggB Tryd.prog 55 = true := by kernel_rfl
theorem tr55 : arE Tryd.prog 55 = none := by kernel_rfl
theorem tf55_0 : fieldOf Tryd.prog 55 0 = some (0, 9) := by kernel_rfl
theorem tf55_1 : fieldOf Tryd.prog 55 1 = some (1, 9) := by kernel_rfl
theorem tf55_2 : fieldOf Tryd.prog 55 2 = some (2, 3) := by kernel_rfl
theorem tfk55 : fieldsKnown Tryd.prog 55 = true := by kernel_rfl
theorem tq55 : arrEq Tryd.prog 55 = none := by kernel_rfl
theorem tz55 : zeroD Tryd.prog 55 = some [.str [], .str [], .int .i64 0] := by kernel_rfl
theorem to55 : zeroOk Tryd.prog 55 = true := by kernel_rfl
theorem tc57 : Program.cellsOf Tryd.prog 57 = 6 := by kernel_rfl
theorem tb57 : Program.bytesOf Tryd.prog 57 = 80 := by kernel_rfl
theorem tk57 : known Tryd.prog 57 = true := by kernel_rfl
theorem ta57 : aggB Tryd.prog 57 = true := by kernel_rfl
theorem tr57 : arE Tryd.prog 57 = none := by kernel_rfl
theorem tf57_0 : fieldOf Tryd.prog 57 0 = some (0, 54) := by kernel_rfl
theorem tf57_1 : fieldOf Tryd.prog 57 1 = some (3, 55) := by kernel_rfl
theorem tfk57 : fieldsKnown Tryd.prog 57 = true := by kernel_rfl
theorem tq57 : arrEq Tryd.prog 57 = none := by kernel_rfl
theorem tz57 : zeroD Tryd.prog 57 = some [.lst .no [], .int .i64 0, .int .i64 0, .str [], .str [], .int .i64 0] := by kernel_rfl
theorem to57 : zeroOk Tryd.prog 57 = true := by kernel_rfl
theorem tc60 : Program.cellsOf Tryd.prog 60 = 3 := by kernel_rfl
theorem tb60 : Program.bytesOf Tryd.prog 60 = 40 := by kernel_rfl
theorem tk60 : known Tryd.prog 60 = true := by kernel_rfl
theorem ta60 : aggB Tryd.prog 60 = true := by kernel_rfl
theorem tr60 : arE Tryd.prog 60 = none := by kernel_rfl
theorem tf60_0 : fieldOf Tryd.prog 60 0 = some (0, 52) := by kernel_rfl
theorem tf60_1 : fieldOf Tryd.prog 60 1 = some (1, 3) := by kernel_rfl
theorem tf60_2 : fieldOf Tryd.prog 60 2 = some (2, 3) := by kernel_rfl
theorem tfk60 : fieldsKnown Tryd.prog 60 = true := by kernel_rfl
theorem tq60 : arrEq Tryd.prog 60 = none := by kernel_rfl
theorem tz60 : zeroD Tryd.prog 60 = some [.lst .no [], .int .i64 0, .int .i64 0] := by kernel_rfl
theorem to60 : zeroOk Tryd.prog 60 = true := by kernel_rfl
theorem tc62 : Program.cellsOf Tryd.prog 62 = 6 := by kernel_rfl
theorem tb62 : Program.bytesOf Tryd.prog 62 = 80 := by kernel_rfl
theorem tk62 : known Tryd.prog 62 = true := by kernel_rfl
theorem ta62 : aggB Tryd.prog 62 = true := by kernel_rfl
theorem tr62 : arE Tryd.prog 62 = none := by kernel_rfl
theorem tf62_0 : fieldOf Tryd.prog 62 0 = some (0, 60) := by kernel_rfl
theorem tf62_1 : fieldOf Tryd.prog 62 1 = some (3, 33) := by kernel_rfl
theorem tfk62 : fieldsKnown Tryd.prog 62 = true := by kernel_rfl
theorem tq62 : arrEq Tryd.prog 62 = none := by kernel_rfl
theorem tz62 : zeroD Tryd.prog 62 = some [.lst .no [], .int .i64 0, .int .i64 0, .str [], .str [], .int .i64 0] := by kernel_rfl
theorem to62 : zeroOk Tryd.prog 62 = true := by kernel_rfl
theorem tc72 : Program.cellsOf Tryd.prog 72 = 1 := by kernel_rfl
theorem tb72 : Program.bytesOf Tryd.prog 72 = 8 := by kernel_rfl
theorem tk72 : known Tryd.prog 72 = true := by kernel_rfl
theorem ta72 : aggB Tryd.prog 72 = false := by kernel_rfl
theorem tr72 : arE Tryd.prog 72 = none := by kernel_rfl
theorem tq72 : arrEq Tryd.prog 72 = none := by kernel_rfl
theorem tz72 : zeroD Tryd.prog 72 = some [.nilp] := by kernel_rfl
theorem to72 : zeroOk Tryd.prog 72 = true := by kernel_rfl
theorem tc73 : Program.cellsOf Tryd.prog 73 = 1 := by kernel_rfl
theorem tb73 : Program.bytesOf Tryd.prog 73 = 8 := by kernel_rfl
theorem tk73 : known Tryd.prog 73 = true := by kernel_rfl
theorem ta73 : aggB Tryd.prog 73 = false := by kernel_rfl
theorem tn73 : kindOf Tryd.prog 73 = some .u64 := by kernel_rfl
theorem tr73 : arE Tryd.prog 73 = none := by kernel_rfl
theorem tq73 : arrEq Tryd.prog 73 = none := by kernel_rfl
theorem tz73 : zeroD Tryd.prog 73 = some [.int .u64 0] := by kernel_rfl
theorem to73 : zeroOk Tryd.prog 73 = true := by kernel_rfl
theorem tc75 : Program.cellsOf Tryd.prog 75 = 3 := by kernel_rfl
theorem tb75 : Program.bytesOf Tryd.prog 75 = 40 := by kernel_rfl
theorem tk75 : known Tryd.prog 75 = true := by kernel_rfl
theorem ta75 : aggB Tryd.prog 75 = true := by kernel_rfl
theorem tr75 : arE Tryd.prog 75 = none := by kernel_rfl
theorem tf75_0 : fieldOf Tryd.prog 75 0 = some (0, 22) := by kernel_rfl
theorem tf75_1 : fieldOf Tryd.prog 75 1 = some (1, 3) := by kernel_rfl
theorem tf75_2 : fieldOf Tryd.prog 75 2 = some (2, 73) := by kernel_rfl
theorem tfk75 : fieldsKnown Tryd.prog 75 = true := by kernel_rfl
theorem tq75 : arrEq Tryd.prog 75 = none := by kernel_rfl
theorem tz75 : zeroD Tryd.prog 75 = some [.lst .no [], .int .i64 0, .int .u64 0] := by kernel_rfl
theorem to75 : zeroOk Tryd.prog 75 = true := by kernel_rfl
theorem tc78 : Program.cellsOf Tryd.prog 78 = 1 := by kernel_rfl
theorem tb78 : Program.bytesOf Tryd.prog 78 = 24 := by kernel_rfl
theorem tk78 : known Tryd.prog 78 = true := by kernel_rfl
theorem ta78 : aggB Tryd.prog 78 = false := by kernel_rfl
theorem ts78 : slE Tryd.prog 78 = some 3 := by kernel_rfl
theorem tr78 : arE Tryd.prog 78 = none := by kernel_rfl
theorem tq78 : arrEq Tryd.prog 78 = none := by kernel_rfl
theorem tz78 : zeroD Tryd.prog 78 = some [.lst .exact []] := by kernel_rfl
theorem to78 : zeroOk Tryd.prog 78 = true := by kernel_rfl
theorem tc83 : Program.cellsOf Tryd.prog 83 = 1 := by kernel_rfl
theorem tb83 : Program.bytesOf Tryd.prog 83 = 8 := by kernel_rfl
theorem tk83 : known Tryd.prog 83 = true := by kernel_rfl
theorem ta83 : aggB Tryd.prog 83 = false := by kernel_rfl
theorem tr83 : arE Tryd.prog 83 = none := by kernel_rfl
theorem tq83 : arrEq Tryd.prog 83 = none := by kernel_rfl
theorem tz83 : zeroD Tryd.prog 83 = some [.nilf] := by kernel_rfl
theorem to83 : zeroOk Tryd.prog 83 = true := by kernel_rfl
theorem tc101 : Program.cellsOf Tryd.prog 101 = 1 := by kernel_rfl
theorem tb101 : Program.bytesOf Tryd.prog 101 = 24 := by kernel_rfl
theorem tk101 : known Tryd.prog 101 = true := by kernel_rfl
theorem ta101 : aggB Tryd.prog 101 = false := by kernel_rfl
theorem ts101 : slE Tryd.prog 101 = some 9 := by kernel_rfl
theorem tr101 : arE Tryd.prog 101 = none := by kernel_rfl
theorem tq101 : arrEq Tryd.prog 101 = none := by kernel_rfl
theorem tz101 : zeroD Tryd.prog 101 = some [.lst .exact []] := by kernel_rfl
theorem to101 : zeroOk Tryd.prog 101 = true := by kernel_rfl
theorem tc103 : Program.cellsOf Tryd.prog 103 = 1 := by kernel_rfl
theorem tb103 : Program.bytesOf Tryd.prog 103 = 16 := by kernel_rfl
theorem tk103 : known Tryd.prog 103 = true := by kernel_rfl
theorem ta103 : aggB Tryd.prog 103 = false := by kernel_rfl
theorem ti103 : isIface Tryd.prog 103 = true := by kernel_rfl
theorem tr103 : arE Tryd.prog 103 = none := by kernel_rfl
theorem te103 : fieldsOf Tryd.prog 103 = none := by kernel_rfl
theorem tq103 : arrEq Tryd.prog 103 = none := by kernel_rfl
theorem tz103 : zeroD Tryd.prog 103 = some [.nili] := by kernel_rfl
theorem to103 : zeroOk Tryd.prog 103 = true := by kernel_rfl
theorem tc127 : Program.cellsOf Tryd.prog 127 = 4 := by kernel_rfl
theorem tb127 : Program.bytesOf Tryd.prog 127 = 32 := by kernel_rfl
theorem tk127 : known Tryd.prog 127 = true := by kernel_rfl
theorem ta127 : aggB Tryd.prog 127 = true := by kernel_rfl
theorem tr127 : arE Tryd.prog 127 = some (4, 3) := by kernel_rfl
theorem tq127 : arrEq Tryd.prog 127 = some (4, 3) := by kernel_rfl
theorem tz127 : zeroD Tryd.prog 127 = some [.int .i64 0, .int .i64 0, .int .i64 0, .int .i64 0] := by kernel_rfl
theorem to127 : zeroOk Tryd.prog 127 = true := by kernel_rfl
attribute [go_sem] tc3 tb3 tk3 ta3 tn3 tr3 te3 tq3 tz3 to3 tc4 tb4 tk4 ta4 tv4 tr4 te4 tq4 tz4 to4 tc5 tb5 tk5 ta5 tn5 tr5 te5 tq5 tz5 to5 tc9 tb9 tk9 ta9 tx9 tr9 te9 tq9 tz9 to9 tc22 tb22 tk22 ta22 ts22 tr22 tq22 tz22 to22 tc25 tb25 tk25 ta25 tr25 tf25_0 tf25_1 tfk25 te25 tq25 tz25 to25 tc33 tb33 tk33 ta33 tr33 tf33_0 tf33_1 tf33_2 tfk33 te33 tq33 tz33 to33 tc43 tb43 tk43 ta43 ts43 tr43 tq43 tz43 to43 tc52 tb52 tk52 ta52 ts52 tr52 tq52 tz52 to52 tc54 tb54 tk54 ta54 tr54 tf54_0 tf54_1 tf54_2 tfk54 tq54 tz54 to54 tc55 tb55 tk55 ta55 tr55 tf55_0 tf55_1 tf55_2 tfk55 tq55 tz55 to55 tc57 tb57 tk57 ta57 tr57 tf57_0 tf57_1 tfk57 tq57 tz57 to57 tc60 tb60 tk60 ta60 tr60 tf60_0 tf60_1 tf60_2 tfk60 tq60 tz60 to60 tc62 tb62 tk62 ta62 tr62 tf62_0 tf62_1 tfk62 tq62 tz62 to62 tc72 tb72 tk72 ta72 tr72 tq72 tz72 to72 tc73 tb73 tk73 ta73 tn73 tr73 tq73 tz73 to73 tc75 tb75 tk75 ta75 tr75 tf75_0 tf75_1 tf75_2 tfk75 tq75 tz75 to75 tc78 tb78 tk78 ta78 ts78 tr78 tq78 tz78 to78 tc83 tb83 tk83 ta83 tr83 tq83 tz83 to83 tc101 tb101 tk101 ta101 ts101 tr101 tq101 tz101 to101 tc103 tb103 tk103 ta103 ti103 tr103 te103 tq103 tz103 to103 tc127 tb127 tk127 ta127 tr127 tq127 tz127 to127
end Go.Proofs.YtgnebanjejmckaaDoor
