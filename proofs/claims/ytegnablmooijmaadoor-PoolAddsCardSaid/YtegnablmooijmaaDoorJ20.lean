/- JOINED TEXTS: Tab, Fe6, Fe7, Au. -/
import Derived.Test.YtegnablmooijmaaDoorJ19
import Derived.Test.YtegnablmooijmaaDoorProg
import Derived.KernelRfl
set_option linter.unusedSimpArgs false
set_option linter.unusedVariables false
section
/- THE PROGRAM'S TYPES AND ITS LAID TABLES, AS THE CALCULUS HAS THEM. -/
open Go
namespace Dem
def tb_0 (t : Nat) : Option TI :=
  bif Nat.beq t 0 then some { size := 1, bytes := 0, kd := .other, zero := .any, eq := true } else
  bif Nat.beq t 1 then some { size := 1, bytes := 8, kd := .other, zero := .k .nilFunc, eq := true } else
  bif Nat.beq t 2 then some { size := 1, bytes := 8, kd := .int .i64, zero := .d (.int .i64 0), eq := true } else
  bif Nat.beq t 3 then some { size := 1, bytes := 8, kd := .int .i64, zero := .d (.int .i64 0), eq := true } else
  bif Nat.beq t 4 then some { size := 1, bytes := 1, kd := .bool, zero := .d (.bool false), eq := true } else
  bif Nat.beq t 5 then some { size := 1, bytes := 1, kd := .int .u8, zero := .d (.int .u8 0), eq := true } else
  bif Nat.beq t 6 then some { size := 1, bytes := 1, kd := .int .u8, zero := .d (.int .u8 0), eq := true } else
  bif Nat.beq t 7 then some { size := 4, bytes := 24, kd := .struct [(0, 2), (1, 3), (2, 4), (3, 6)], zero := .agg [.d (.int .i64 0), .d (.int .i64 0), .d (.bool false), .d (.int .u8 0)], eq := true } else
  none
def tb_1 (t : Nat) : Option TI :=
  bif Nat.beq t 8 then some { size := 4, bytes := 24, kd := .struct [(0, 2), (1, 3), (2, 4), (3, 6)], zero := .agg [.d (.int .i64 0), .d (.int .i64 0), .d (.bool false), .d (.int .u8 0)], eq := true } else
  bif Nat.beq t 9 then some { size := 1, bytes := 16, kd := .str, zero := .d (.str []), eq := true } else
  bif Nat.beq t 10 then some { size := 1, bytes := 16, kd := .str, zero := .d (.str []), eq := true } else
  bif Nat.beq t 11 then some { size := 1, bytes := 16, kd := .str, zero := .d (.str []), eq := true } else
  bif Nat.beq t 12 then some { size := 1, bytes := 8, kd := .int .u64, zero := .d (.int .u64 0), eq := true } else
  bif Nat.beq t 13 then some { size := 2, bytes := 24, kd := .struct [(0, 9), (1, 12)], zero := .agg [.d (.str []), .d (.int .u64 0)], eq := false } else
  bif Nat.beq t 14 then some { size := 2, bytes := 24, kd := .struct [(0, 9), (1, 12)], zero := .agg [.d (.str []), .d (.int .u64 0)], eq := false } else
  bif Nat.beq t 15 then some { size := 1, bytes := 8, kd := .other, zero := .k .nilptr, eq := true } else
  none
def tb_2 (t : Nat) : Option TI :=
  bif Nat.beq t 16 then some { size := 1, bytes := 8, kd := .other, zero := .k .nilptr, eq := true } else
  bif Nat.beq t 17 then some { size := 1, bytes := 8, kd := .other, zero := .k .nilptr, eq := true } else
  bif Nat.beq t 18 then some { size := 1, bytes := 8, kd := .struct [(0, 17)], zero := .agg [.k .nilptr], eq := false } else
  bif Nat.beq t 19 then some { size := 1, bytes := 8, kd := .struct [(0, 17)], zero := .agg [.k .nilptr], eq := false } else
  bif Nat.beq t 20 then some { size := 1, bytes := 16, kd := .other, zero := .k .nilIface, eq := true } else
  bif Nat.beq t 21 then some { size := 1, bytes := 4, kd := .int .i32, zero := .d (.int .i32 0), eq := true } else
  bif Nat.beq t 22 then some { size := 1, bytes := 24, kd := .slice 24, zero := .cl [], eq := true } else
  bif Nat.beq t 23 then some { size := 6, bytes := 6, kd := .struct [(0, 5), (1, 5), (2, 5), (3, 5), (4, 5), (5, 5)], zero := .agg [.d (.int .u8 0), .d (.int .u8 0), .d (.int .u8 0), .d (.int .u8 0), .d (.int .u8 0), .d (.int .u8 0)], eq := true } else
  none
def tb_3 (t : Nat) : Option TI :=
  bif Nat.beq t 24 then some { size := 6, bytes := 6, kd := .struct [(0, 5), (1, 5), (2, 5), (3, 5), (4, 5), (5, 5)], zero := .agg [.d (.int .u8 0), .d (.int .u8 0), .d (.int .u8 0), .d (.int .u8 0), .d (.int .u8 0), .d (.int .u8 0)], eq := true } else
  bif Nat.beq t 25 then some { size := 1, bytes := 24, kd := .slice 5, zero := .cl [], eq := true } else
  bif Nat.beq t 26 then some { size := 1, bytes := 8, kd := .other, zero := .k .nilFunc, eq := true } else
  bif Nat.beq t 27 then some { size := 1, bytes := 24, kd := .slice 47, zero := .cl [], eq := true } else
  bif Nat.beq t 28 then some { size := 1, bytes := 24, kd := .slice 51, zero := .cl [], eq := true } else
  bif Nat.beq t 29 then some { size := 2, bytes := 48, kd := .struct [(0, 27), (1, 28)], zero := .agg [.cl [], .cl []], eq := true } else
  bif Nat.beq t 30 then some { size := 2, bytes := 48, kd := .struct [(0, 27), (1, 28)], zero := .agg [.cl [], .cl []], eq := true } else
  bif Nat.beq t 31 then some { size := 1, bytes := 8, kd := .other, zero := .k .nilFunc, eq := true } else
  none
def tb_4 (t : Nat) : Option TI :=
  bif Nat.beq t 32 then some { size := 1, bytes := 8, kd := .other, zero := .k .nilFunc, eq := true } else
  bif Nat.beq t 33 then some { size := 1, bytes := 8, kd := .int .u64, zero := .d (.int .u64 0), eq := true } else
  bif Nat.beq t 34 then some { size := 1, bytes := 24, kd := .slice 9, zero := .cl [], eq := true } else
  bif Nat.beq t 35 then some { size := 1, bytes := 8, kd := .other, zero := .k .nilFunc, eq := true } else
  bif Nat.beq t 36 then some { size := 1, bytes := 8, kd := .int .i64, zero := .d (.int .i64 0), eq := true } else
  bif Nat.beq t 37 then some { size := 1, bytes := 0, kd := .other, zero := .any, eq := true } else
  bif Nat.beq t 38 then some { size := 1, bytes := 8, kd := .other, zero := .k .nilFunc, eq := true } else
  bif Nat.beq t 39 then some { size := 4, bytes := 32, kd := .array 4 33, zero := .agg [.d (.int .u64 0), .d (.int .u64 0), .d (.int .u64 0), .d (.int .u64 0)], eq := true } else
  none
def tb_5 (t : Nat) : Option TI :=
  bif Nat.beq t 40 then some { size := 4, bytes := 32, kd := .array 4 33, zero := .agg [.d (.int .u64 0), .d (.int .u64 0), .d (.int .u64 0), .d (.int .u64 0)], eq := true } else
  bif Nat.beq t 41 then some { size := 1, bytes := 8, kd := .other, zero := .k .nilFunc, eq := true } else
  bif Nat.beq t 42 then some { size := 1, bytes := 8, kd := .other, zero := .k .nilFunc, eq := true } else
  bif Nat.beq t 43 then some { size := 1, bytes := 8, kd := .other, zero := .k .nilFunc, eq := true } else
  bif Nat.beq t 44 then some { size := 1, bytes := 8, kd := .other, zero := .k .nilFunc, eq := true } else
  bif Nat.beq t 45 then some { size := 1, bytes := 24, kd := .slice 110, zero := .cl [], eq := true } else
  bif Nat.beq t 46 then some { size := 7, bytes := 80, kd := .struct [(0, 9), (1, 40), (5, 45), (6, 4)], zero := .agg [.d (.str []), .d (.int .u64 0), .d (.int .u64 0), .d (.int .u64 0), .d (.int .u64 0), .cl [], .d (.bool false)], eq := true } else
  bif Nat.beq t 47 then some { size := 7, bytes := 80, kd := .struct [(0, 9), (1, 40), (5, 45), (6, 4)], zero := .agg [.d (.str []), .d (.int .u64 0), .d (.int .u64 0), .d (.int .u64 0), .d (.int .u64 0), .cl [], .d (.bool false)], eq := true } else
  none
def tb_6 (t : Nat) : Option TI :=
  bif Nat.beq t 48 then some { size := 1, bytes := 0, kd := .other, zero := .any, eq := true } else
  bif Nat.beq t 49 then some { size := 1, bytes := 8, kd := .other, zero := .k .nilFunc, eq := true } else
  bif Nat.beq t 50 then some { size := 6, bytes := 56, kd := .struct [(0, 33), (1, 9), (2, 40)], zero := .agg [.d (.int .u64 0), .d (.str []), .d (.int .u64 0), .d (.int .u64 0), .d (.int .u64 0), .d (.int .u64 0)], eq := true } else
  bif Nat.beq t 51 then some { size := 6, bytes := 56, kd := .struct [(0, 33), (1, 9), (2, 40)], zero := .agg [.d (.int .u64 0), .d (.str []), .d (.int .u64 0), .d (.int .u64 0), .d (.int .u64 0), .d (.int .u64 0)], eq := true } else
  bif Nat.beq t 52 then some { size := 1, bytes := 8, kd := .other, zero := .k .nilFunc, eq := true } else
  bif Nat.beq t 53 then some { size := 1, bytes := 8, kd := .other, zero := .k .nilFunc, eq := true } else
  bif Nat.beq t 54 then some { size := 1, bytes := 24, kd := .slice 33, zero := .cl [], eq := true } else
  bif Nat.beq t 55 then some { size := 1, bytes := 0, kd := .other, zero := .any, eq := true } else
  none
def tb_7 (t : Nat) : Option TI :=
  bif Nat.beq t 56 then some { size := 1, bytes := 8, kd := .other, zero := .k .nilFunc, eq := true } else
  bif Nat.beq t 57 then some { size := 1, bytes := 8, kd := .other, zero := .k .nilFunc, eq := true } else
  bif Nat.beq t 58 then some { size := 1, bytes := 24, kd := .slice 71, zero := .cl [], eq := true } else
  bif Nat.beq t 59 then some { size := 1, bytes := 8, kd := .other, zero := .k .nilFunc, eq := true } else
  bif Nat.beq t 60 then some { size := 1, bytes := 8, kd := .other, zero := .k .nilFunc, eq := true } else
  bif Nat.beq t 61 then some { size := 1, bytes := 8, kd := .other, zero := .k .nilFunc, eq := true } else
  bif Nat.beq t 62 then some { size := 1, bytes := 2, kd := .int .u16, zero := .d (.int .u16 0), eq := true } else
  bif Nat.beq t 63 then some { size := 1, bytes := 8, kd := .other, zero := .k .nilFunc, eq := true } else
  none
def tb_8 (t : Nat) : Option TI :=
  bif Nat.beq t 64 then some { size := 1, bytes := 0, kd := .other, zero := .any, eq := true } else
  bif Nat.beq t 65 then some { size := 1, bytes := 8, kd := .other, zero := .k .nilFunc, eq := true } else
  bif Nat.beq t 66 then some { size := 1, bytes := 8, kd := .other, zero := .k .nilFunc, eq := true } else
  bif Nat.beq t 67 then some { size := 1, bytes := 8, kd := .other, zero := .k .nilFunc, eq := true } else
  bif Nat.beq t 68 then some { size := 1, bytes := 0, kd := .other, zero := .any, eq := true } else
  bif Nat.beq t 69 then some { size := 1, bytes := 8, kd := .other, zero := .k .nilFunc, eq := true } else
  bif Nat.beq t 70 then some { size := 6, bytes := 72, kd := .struct [(0, 9), (1, 40), (5, 45)], zero := .agg [.d (.str []), .d (.int .u64 0), .d (.int .u64 0), .d (.int .u64 0), .d (.int .u64 0), .cl []], eq := true } else
  bif Nat.beq t 71 then some { size := 6, bytes := 72, kd := .struct [(0, 9), (1, 40), (5, 45)], zero := .agg [.d (.str []), .d (.int .u64 0), .d (.int .u64 0), .d (.int .u64 0), .d (.int .u64 0), .cl []], eq := true } else
  none
def tb_9 (t : Nat) : Option TI :=
  bif Nat.beq t 72 then some { size := 1, bytes := 8, kd := .other, zero := .k .nilFunc, eq := true } else
  bif Nat.beq t 73 then some { size := 1, bytes := 8, kd := .other, zero := .k .nilFunc, eq := true } else
  bif Nat.beq t 74 then some { size := 1, bytes := 8, kd := .other, zero := .k .nilFunc, eq := true } else
  bif Nat.beq t 75 then some { size := 1, bytes := 8, kd := .other, zero := .k .nilFunc, eq := true } else
  bif Nat.beq t 76 then some { size := 1, bytes := 8, kd := .other, zero := .k .nilFunc, eq := true } else
  bif Nat.beq t 77 then some { size := 1, bytes := 8, kd := .other, zero := .k .nilFunc, eq := true } else
  bif Nat.beq t 78 then some { size := 1, bytes := 8, kd := .other, zero := .k .nilFunc, eq := true } else
  bif Nat.beq t 79 then some { size := 1, bytes := 8, kd := .other, zero := .k .nilFunc, eq := true } else
  none
def tb_10 (t : Nat) : Option TI :=
  bif Nat.beq t 80 then some { size := 1, bytes := 8, kd := .other, zero := .k .nilFunc, eq := true } else
  bif Nat.beq t 81 then some { size := 1, bytes := 8, kd := .other, zero := .k .nilFunc, eq := true } else
  bif Nat.beq t 82 then some { size := 1, bytes := 8, kd := .other, zero := .k .nilFunc, eq := true } else
  bif Nat.beq t 83 then some { size := 1, bytes := 8, kd := .other, zero := .k .nilFunc, eq := true } else
  bif Nat.beq t 84 then some { size := 1, bytes := 8, kd := .other, zero := .k .nilFunc, eq := true } else
  bif Nat.beq t 85 then some { size := 1, bytes := 8, kd := .other, zero := .k .nilFunc, eq := true } else
  bif Nat.beq t 86 then some { size := 1, bytes := 8, kd := .other, zero := .k .nilFunc, eq := true } else
  bif Nat.beq t 87 then some { size := 1, bytes := 8, kd := .other, zero := .k .nilFunc, eq := true } else
  none
def tb_11 (t : Nat) : Option TI :=
  bif Nat.beq t 88 then some { size := 1, bytes := 8, kd := .other, zero := .k .nilFunc, eq := true } else
  bif Nat.beq t 89 then some { size := 1, bytes := 8, kd := .map 33 3, zero := .k .nilMap, eq := true } else
  bif Nat.beq t 90 then some { size := 1, bytes := 8, kd := .other, zero := .k .nilFunc, eq := true } else
  bif Nat.beq t 91 then some { size := 1, bytes := 8, kd := .other, zero := .k .nilFunc, eq := true } else
  bif Nat.beq t 92 then some { size := 1, bytes := 8, kd := .other, zero := .k .nilFunc, eq := true } else
  bif Nat.beq t 93 then some { size := 1, bytes := 8, kd := .other, zero := .k .nilFunc, eq := true } else
  bif Nat.beq t 94 then some { size := 1, bytes := 8, kd := .other, zero := .k .nilFunc, eq := true } else
  bif Nat.beq t 95 then some { size := 1, bytes := 8, kd := .other, zero := .k .nilFunc, eq := true } else
  none
def tb_12 (t : Nat) : Option TI :=
  bif Nat.beq t 96 then some { size := 1, bytes := 8, kd := .other, zero := .k .nilFunc, eq := true } else
  bif Nat.beq t 97 then some { size := 1, bytes := 8, kd := .other, zero := .k .nilFunc, eq := true } else
  bif Nat.beq t 98 then some { size := 1, bytes := 8, kd := .other, zero := .k .nilFunc, eq := true } else
  bif Nat.beq t 99 then some { size := 1, bytes := 8, kd := .other, zero := .k .nilFunc, eq := true } else
  bif Nat.beq t 100 then some { size := 1, bytes := 8, kd := .other, zero := .k .nilFunc, eq := true } else
  bif Nat.beq t 101 then some { size := 1, bytes := 0, kd := .other, zero := .any, eq := true } else
  bif Nat.beq t 102 then some { size := 1, bytes := 8, kd := .other, zero := .k .nilFunc, eq := true } else
  bif Nat.beq t 103 then some { size := 1, bytes := 8, kd := .other, zero := .k .nilFunc, eq := true } else
  none
def tb_13 (t : Nat) : Option TI :=
  bif Nat.beq t 104 then some { size := 1, bytes := 0, kd := .other, zero := .any, eq := true } else
  bif Nat.beq t 105 then some { size := 1, bytes := 8, kd := .other, zero := .k .nilFunc, eq := true } else
  bif Nat.beq t 106 then some { size := 1, bytes := 8, kd := .other, zero := .k .nilFunc, eq := true } else
  bif Nat.beq t 107 then some { size := 1, bytes := 8, kd := .other, zero := .k .nilFunc, eq := true } else
  bif Nat.beq t 108 then some { size := 1, bytes := 8, kd := .other, zero := .k .nilFunc, eq := true } else
  bif Nat.beq t 109 then some { size := 2, bytes := 32, kd := .struct [(0, 9), (1, 9)], zero := .agg [.d (.str []), .d (.str [])], eq := true } else
  bif Nat.beq t 110 then some { size := 2, bytes := 32, kd := .struct [(0, 9), (1, 9)], zero := .agg [.d (.str []), .d (.str [])], eq := true } else
  bif Nat.beq t 111 then some { size := 1, bytes := 24, kd := .slice 45, zero := .cl [], eq := true } else
  none
def tb_14 (t : Nat) : Option TI :=
  bif Nat.beq t 112 then some { size := 1, bytes := 8, kd := .other, zero := .k .nilFunc, eq := true } else
  bif Nat.beq t 113 then some { size := 1, bytes := 8, kd := .other, zero := .k .nilFunc, eq := true } else
  bif Nat.beq t 114 then some { size := 1, bytes := 24, kd := .slice 116, zero := .cl [], eq := true } else
  bif Nat.beq t 115 then some { size := 2, bytes := 8, kd := .struct [(0, 21), (1, 21)], zero := .agg [.d (.int .i32 0), .d (.int .i32 0)], eq := true } else
  bif Nat.beq t 116 then some { size := 2, bytes := 8, kd := .struct [(0, 21), (1, 21)], zero := .agg [.d (.int .i32 0), .d (.int .i32 0)], eq := true } else
  bif Nat.beq t 117 then some { size := 6, bytes := 24, kd := .array 3 116, zero := .agg [.d (.int .i32 0), .d (.int .i32 0), .d (.int .i32 0), .d (.int .i32 0), .d (.int .i32 0), .d (.int .i32 0)], eq := true } else
  bif Nat.beq t 118 then some { size := 4, bytes := 16, kd := .array 2 116, zero := .agg [.d (.int .i32 0), .d (.int .i32 0), .d (.int .i32 0), .d (.int .i32 0)], eq := true } else
  bif Nat.beq t 119 then some { size := 1, bytes := 8, kd := .other, zero := .k .nilFunc, eq := true } else
  none
def tb_15 (t : Nat) : Option TI :=
  bif Nat.beq t 120 then some { size := 1, bytes := 8, kd := .other, zero := .k .nilFunc, eq := true } else
  bif Nat.beq t 121 then some { size := 1, bytes := 8, kd := .other, zero := .k .nilFunc, eq := true } else
  bif Nat.beq t 122 then some { size := 1, bytes := 8, kd := .other, zero := .k .nilFunc, eq := true } else
  bif Nat.beq t 123 then some { size := 1, bytes := 8, kd := .other, zero := .k .nilFunc, eq := true } else
  bif Nat.beq t 124 then some { size := 1, bytes := 8, kd := .int .u64, zero := .d (.int .u64 0), eq := true } else
  bif Nat.beq t 125 then some { size := 1, bytes := 8, kd := .other, zero := .k .nilFunc, eq := true } else
  bif Nat.beq t 126 then some { size := 1, bytes := 0, kd := .other, zero := .any, eq := true } else
  bif Nat.beq t 127 then some { size := 1, bytes := 8, kd := .other, zero := .k .nilFunc, eq := true } else
  none
def tb_16 (t : Nat) : Option TI :=
  bif Nat.beq t 128 then some { size := 1, bytes := 0, kd := .other, zero := .any, eq := true } else
  bif Nat.beq t 129 then some { size := 1, bytes := 0, kd := .other, zero := .any, eq := true } else
  bif Nat.beq t 130 then some { size := 1, bytes := 8, kd := .other, zero := .k .nilFunc, eq := true } else
  bif Nat.beq t 131 then some { size := 1, bytes := 0, kd := .other, zero := .any, eq := true } else
  bif Nat.beq t 132 then some { size := 1, bytes := 8, kd := .other, zero := .k .nilFunc, eq := true } else
  bif Nat.beq t 133 then some { size := 1, bytes := 0, kd := .other, zero := .any, eq := true } else
  bif Nat.beq t 134 then some { size := 1, bytes := 8, kd := .other, zero := .k .nilFunc, eq := true } else
  bif Nat.beq t 135 then some { size := 1, bytes := 0, kd := .other, zero := .any, eq := true } else
  none
def tb_17 (t : Nat) : Option TI :=
  bif Nat.beq t 136 then some { size := 1, bytes := 0, kd := .other, zero := .any, eq := true } else
  bif Nat.beq t 137 then some { size := 1, bytes := 0, kd := .other, zero := .any, eq := true } else
  bif Nat.beq t 138 then some { size := 1, bytes := 8, kd := .other, zero := .k .nilFunc, eq := true } else
  bif Nat.beq t 139 then some { size := 1, bytes := 8, kd := .other, zero := .k .nilFunc, eq := true } else
  bif Nat.beq t 140 then some { size := 1, bytes := 8, kd := .other, zero := .k .nilFunc, eq := true } else
  bif Nat.beq t 141 then some { size := 1, bytes := 8, kd := .other, zero := .k .nilFunc, eq := true } else
  bif Nat.beq t 142 then some { size := 1, bytes := 8, kd := .other, zero := .k .nilFunc, eq := true } else
  bif Nat.beq t 143 then some { size := 1, bytes := 8, kd := .other, zero := .k .nilFunc, eq := true } else
  none
def tb_18 (t : Nat) : Option TI :=
  bif Nat.beq t 144 then some { size := 1, bytes := 8, kd := .other, zero := .k .nilFunc, eq := true } else
  bif Nat.beq t 145 then some { size := 1, bytes := 8, kd := .other, zero := .k .nilFunc, eq := true } else
  bif Nat.beq t 146 then some { size := 1, bytes := 8, kd := .other, zero := .k .nilFunc, eq := true } else
  bif Nat.beq t 147 then some { size := 1, bytes := 8, kd := .other, zero := .k .nilFunc, eq := true } else
  bif Nat.beq t 148 then some { size := 1, bytes := 8, kd := .int .i64, zero := .d (.int .i64 0), eq := true } else
  bif Nat.beq t 149 then some { size := 1, bytes := 0, kd := .other, zero := .any, eq := true } else
  bif Nat.beq t 150 then some { size := 1, bytes := 8, kd := .other, zero := .k .nilFunc, eq := true } else
  bif Nat.beq t 151 then some { size := 1, bytes := 8, kd := .other, zero := .k .nilFunc, eq := true } else
  none
def tb_19 (t : Nat) : Option TI :=
  bif Nat.beq t 152 then some { size := 1, bytes := 8, kd := .other, zero := .k .nilFunc, eq := true } else
  bif Nat.beq t 153 then some { size := 1, bytes := 8, kd := .other, zero := .k .nilFunc, eq := true } else
  bif Nat.beq t 154 then some { size := 1, bytes := 0, kd := .other, zero := .any, eq := true } else
  bif Nat.beq t 155 then some { size := 1, bytes := 8, kd := .other, zero := .k .nilFunc, eq := true } else
  bif Nat.beq t 156 then some { size := 1, bytes := 8, kd := .other, zero := .k .nilFunc, eq := true } else
  bif Nat.beq t 157 then some { size := 1, bytes := 4, kd := .int .u32, zero := .d (.int .u32 0), eq := true } else
  bif Nat.beq t 158 then some { size := 1, bytes := 8, kd := .other, zero := .k .nilFunc, eq := true } else
  bif Nat.beq t 159 then some { size := 1, bytes := 8, kd := .other, zero := .k .nilFunc, eq := true } else
  none
def tb_20 (t : Nat) : Option TI :=
  bif Nat.beq t 160 then some { size := 1, bytes := 0, kd := .other, zero := .any, eq := true } else
  bif Nat.beq t 161 then some { size := 1, bytes := 8, kd := .int .u64, zero := .d (.int .u64 0), eq := true } else
  bif Nat.beq t 162 then some { size := 1, bytes := 8, kd := .other, zero := .k .nilFunc, eq := true } else
  bif Nat.beq t 163 then some { size := 1, bytes := 8, kd := .other, zero := .k .nilFunc, eq := true } else
  bif Nat.beq t 164 then some { size := 1, bytes := 8, kd := .other, zero := .k .nilFunc, eq := true } else
  bif Nat.beq t 165 then some { size := 1, bytes := 8, kd := .other, zero := .k .nilptr, eq := true } else
  bif Nat.beq t 166 then some { size := 1, bytes := 8, kd := .other, zero := .k .nilFunc, eq := true } else
  bif Nat.beq t 167 then some { size := 1, bytes := 8, kd := .other, zero := .k .nilptr, eq := true } else
  none
def tb_21 (t : Nat) : Option TI :=
  bif Nat.beq t 168 then some { size := 1, bytes := 0, kd := .other, zero := .any, eq := true } else
  bif Nat.beq t 169 then some { size := 1, bytes := 8, kd := .other, zero := .k .nilFunc, eq := true } else
  bif Nat.beq t 170 then some { size := 4, bytes := 40, kd := .struct [(0, 17), (1, 17), (2, 17), (3, 9)], zero := .agg [.k .nilptr, .k .nilptr, .k .nilptr, .d (.str [])], eq := false } else
  bif Nat.beq t 171 then some { size := 4, bytes := 40, kd := .struct [(0, 17), (1, 17), (2, 17), (3, 9)], zero := .agg [.k .nilptr, .k .nilptr, .k .nilptr, .d (.str [])], eq := false } else
  bif Nat.beq t 172 then some { size := 0, bytes := 0, kd := .array 0 16, zero := .agg [], eq := true } else
  bif Nat.beq t 173 then some { size := 0, bytes := 0, kd := .struct [(0, 172)], zero := .agg [], eq := false } else
  bif Nat.beq t 174 then some { size := 0, bytes := 0, kd := .struct [(0, 172)], zero := .agg [], eq := false } else
  bif Nat.beq t 175 then some { size := 1, bytes := 8, kd := .other, zero := .k .nilFunc, eq := true } else
  none
def tb_22 (t : Nat) : Option TI :=
  bif Nat.beq t 176 then some { size := 1, bytes := 1, kd := .int .u8, zero := .d (.int .u8 0), eq := true } else
  bif Nat.beq t 177 then some { size := 1, bytes := 1, kd := .int .u8, zero := .d (.int .u8 0), eq := true } else
  bif Nat.beq t 178 then some { size := 1, bytes := 8, kd := .other, zero := .k .nilFunc, eq := true } else
  bif Nat.beq t 179 then some { size := 1, bytes := 8, kd := .other, zero := .k .nilptr, eq := true } else
  bif Nat.beq t 180 then some { size := 1, bytes := 4, kd := .int .i32, zero := .d (.int .i32 0), eq := true } else
  bif Nat.beq t 181 then some { size := 1, bytes := 4, kd := .int .i32, zero := .d (.int .i32 0), eq := true } else
  bif Nat.beq t 182 then some { size := 11, bytes := 48, kd := .struct [(0, 12), (1, 12), (2, 157), (3, 176), (4, 5), (5, 5), (6, 177), (7, 178), (8, 179), (9, 180), (10, 181)], zero := .agg [.d (.int .u64 0), .d (.int .u64 0), .d (.int .u32 0), .d (.int .u8 0), .d (.int .u8 0), .d (.int .u8 0), .d (.int .u8 0), .k .nilFunc, .k .nilptr, .d (.int .i32 0), .d (.int .i32 0)], eq := false } else
  bif Nat.beq t 183 then some { size := 11, bytes := 48, kd := .struct [(0, 12), (1, 12), (2, 157), (3, 176), (4, 5), (5, 5), (6, 177), (7, 178), (8, 179), (9, 180), (10, 181)], zero := .agg [.d (.int .u64 0), .d (.int .u64 0), .d (.int .u32 0), .d (.int .u8 0), .d (.int .u8 0), .d (.int .u8 0), .d (.int .u8 0), .k .nilFunc, .k .nilptr, .d (.int .i32 0), .d (.int .i32 0)], eq := false } else
  none
def tb_23 (t : Nat) : Option TI :=
  bif Nat.beq t 184 then some { size := 1, bytes := 8, kd := .other, zero := .k .nilptr, eq := true } else
  none
def tb (t : Nat) : Option TI := (bif Nat.blt t 96 then (bif Nat.blt t 48 then (bif Nat.blt t 24 then (bif Nat.blt t 8 then tb_0 t else (bif Nat.blt t 16 then tb_1 t else tb_2 t)) else (bif Nat.blt t 32 then tb_3 t else (bif Nat.blt t 40 then tb_4 t else tb_5 t))) else (bif Nat.blt t 72 then (bif Nat.blt t 56 then tb_6 t else (bif Nat.blt t 64 then tb_7 t else tb_8 t)) else (bif Nat.blt t 80 then tb_9 t else (bif Nat.blt t 88 then tb_10 t else tb_11 t)))) else (bif Nat.blt t 144 then (bif Nat.blt t 120 then (bif Nat.blt t 104 then tb_12 t else (bif Nat.blt t 112 then tb_13 t else tb_14 t)) else (bif Nat.blt t 128 then tb_15 t else (bif Nat.blt t 136 then tb_16 t else tb_17 t))) else (bif Nat.blt t 168 then (bif Nat.blt t 152 then tb_18 t else (bif Nat.blt t 160 then tb_19 t else tb_20 t)) else (bif Nat.blt t 176 then tb_21 t else (bif Nat.blt t 184 then tb_22 t else tb_23 t)))))
/-- the types, as far as the table goes -/
def tT (t : Nat) : Option TI := bif Nat.blt t 185 then tb t else none
theorem tb_eq : (List.range 185).map (tiOf Go.Proofs.Tryd.prog) = (List.range 185).map tb := by kernel_rfl
def fieldsIn : Bool := (List.range 185).all fun t => match tb t with
  | some ti => match ti.kd with
    | .struct fs => fs.all fun f => (tT f.2).isSome
    | _ => true
  | none => true
theorem fieldsIn_ok : fieldsIn = true := by kernel_rfl
theorem tOk : TOk Go.Proofs.Tryd.prog tT := by
  refine ⟨?_, ?_, ?_⟩
  · intro t ti h
    unfold tT at h
    cases ht : Nat.blt t 185 with
    | false => simp [ht] at h
    | true =>
    simp only [ht, cond_true] at h
    have ht' : t < 185 := by simpa [Nat.blt_eq] using ht
    have e := congrArg (fun l => l[t]?) tb_eq
    simp only [List.getElem?_map, List.getElem?_range ht', Option.map_some, Option.some.injEq] at e
    rw [e, h]
  · intro t ti fs h hk f hf
    unfold tT at h
    cases ht : Nat.blt t 185 with
    | false => simp [ht] at h
    | true =>
    simp only [ht, cond_true] at h
    have ht' : t < 185 := by simpa [Nat.blt_eq] using ht
    have hall := List.all_eq_true.1 fieldsIn_ok t (by simp [ht'])
    simp only [h, hk] at hall
    have := List.all_eq_true.1 hall f hf
    exact Option.isSome_iff_exists.1 this
  · exact Nat.le_of_ble_eq_true (by kernel_rfl)
def gl (g : Nat) : Option (List D) :=
  bif Nat.beq g 0 then some [.int .i32 97, .int .i32 122, .int .i32 945, .int .i32 969, .int .i32 1072, .int .i32 1103] else
  bif Nat.beq g 1 then some [.int .i32 48, .int .i32 57, .int .i32 45, .int .i32 45] else none
def FC : Nat → List AV → List Box → Res → List Box → Prop := FCalls Go.Proofs.Tryd.prog gl
theorem drawOk : DrawOk Go.Proofs.Tryd.prog tT gl := draw_ok tOk (by kernel_rfl)
end Dem
end
section
/- CONTRACTS OF WHAT THE MODEL ANSWERS ITSELF: slices.overlaps of data and an own row. -/
open Go
namespace Dem

theorem overlaps_eq (tS tR : TypeId) (a : Addr) (ba : Option Addr) (la ca lb cb : Nat) : ∃ (m : String) (ch : Sem Nat),
    Extern.SlicesOverlaps.overlaps #[tS, tS] #[tR] #[.slice (some a) la ca, .slice ba lb cb] = (do
    let .slice elem ← underlying tS | stuck m
    let size ← Go.sizeOf elem
    match ba with
    | some b =>
      if la = 0 ∨ lb = 0 ∨ size = 0 then pure (Value.bool false)
      else if a.block != b.block && (← frozen a) && (← frozen b) then unsupported .addressObserved
      else do
        if a.block != b.block then do
          noView a; noView b
          if ← mayBeOne a b then return Value.bool ((← ch) == 1)
        pure (Value.bool (a.block == b.block && a.off < b.off + lb * size && b.off < a.off + la * size))
    | none => pure (Value.bool false)) := by
  apply Exists.intro
  apply Exists.intro
  cases ba with
  | some b => rfl
  | none => rfl

theorem run_overlaps_own {P : Program} (w : World) (tS tR e : TypeId) (ht : P.underlying tS = some (.slice e)) {size : Nat} (hz : ∀ w, (Go.sizeOf e).run P w = .ok size w)
    (a : Addr) (ba : Option Addr) (la ca lb cb : Nat) {tA : TypeId} {kA : Nat} (hsa : w.shape? a.block = some (tA, kA)) (hkA : kA ≠ 0)
    (hb : lb = 0 ∨ ∃ b c e', ba = some b ∧ b.spot = none ∧ a.block ≠ b.block ∧ w.heap[b.block]? = some (.cells c e' (0, 0))) :
    (Extern.SlicesOverlaps.overlaps #[tS, tS] #[tR] #[.slice (some a) la ca, .slice ba lb cb]).run P w = .ok (.bool false) w := by
  have hund : (underlying tS).run P w = .ok (.slice e) w := run_und ht
  obtain ⟨m, ch, e⟩ := overlaps_eq tS tR a ba la ca lb cb
  rw [e]
  clear e
  cases ba with
  | none => simp [hund, hz]
  | some b =>
  by_cases h0 : la = 0 ∨ lb = 0 ∨ size = 0
  · simp [hund, hz, h0]
  rcases hb with hb | ⟨b', c, e', hbe, hsp, hne, hh⟩
  · exact absurd (.inr (.inl hb)) h0
  simp only [Option.some.injEq] at hbe; subst hbe
  have hnb : (a.block != b.block) = true := by simpa using hne
  have hnb' : (a.block == b.block) = false := by simpa using hne
  have hsb : w.shape? b.block = some (e', c.size) := by simp [World.shape?, hh]
  have hf : ∀ off sp, w.frozen? { block := b.block, off := off, spot := sp } = false := by intro off sp; simp [World.frozen?, hh]
  have hfb : w.frozen? b = false := hf _ _
  cases kA with
  | zero => exact absurd rfl hkA
  | succ kA =>
  cases h1 : w.frozen? a <;> cases h2 : w.frozen? { block := a.block, off := kA + 1 } <;>
    simp [hund, hz, h0, hnb, hnb', frozen, noView, Go.viewAt, mayBeOne, stringish, shape, Sem.run, hsa, hsb, hfb, hf, h1, h2]

theorem fcalls_overlaps {P : Program} {G : Nat → Option (List D)} {T : Nat → Option TI} (hT : TOk P T) {f : Nat} {fn : Func} {tS tR : TypeId} (hf : P.funcs[f]? = some fn) (hname : (fn.name == "runtime.NumGoroutine") = false)
    (hb : fn.body.isNone = true) (hn : Extern.findNext fn = none) (he : Extern.find fn = some (Extern.SlicesOverlaps.overlaps #[tS, tS] #[tR])) {te : TI} (hel : elemOf T tS = some te)
    {b sz off n c : Nat} {ex : Bool} {es : List (List D)} {x : D} {row : List D} {xs : List (List D)} {bx : List Box} (hbx : bx[b]? = some (.row sz es)) (hne : es ≠ []) :
    FCalls P G f [.d (.sl ((x :: row) :: xs)), .vw b sz off n c ex] bx (.ret (.d (.bool false))) bx := by
  intro β w vs X cx hx
  simp only [RepAs, RepA, RepD] at hx
  obtain ⟨u1, us1, rfl, ⟨base, cap, rfl, _, h1⟩, u2, us2, rfl, ⟨_, base2, cap2, cs, e2, f2, rfl, k1, k2, k3, k4⟩, rfl⟩ := hx
  obtain ⟨ti, e, t1, t2, t3⟩ := elemOf_inv hel
  have hund := slice_und hT t1 t2
  obtain ⟨ei, ed, g1, g2, g3, g4, g5, g6⟩ := tiOf_inv (hT.ti _ _ t3)
  rcases h1 with h1 | ⟨blk, o, sz2, rfl, hok, hrows⟩
  · simp at h1
  simp only [RepRows, RepRow] at hrows
  obtain ⟨_, ⟨⟨u, hcell, _⟩, _⟩, _⟩ := hrows
  have hsa : ∃ tA kA, w.shape? blk = some (tA, kA) ∧ kA ≠ 0 := by
    simp only [World.cell?] at hcell
    split at hcell
    · rename_i ca ea fa hh
      refine ⟨ea, ca.size, by simp [World.shape?, hh], ?_⟩
      intro h0
      simp at hcell
      obtain ⟨hlt, _⟩ := Array.getElem?_eq_some_iff.1 hcell
      omega
    · simp at hcell
  obtain ⟨tA, kA, hsa, hkA⟩ := hsa
  have hlive : (Box.row sz es).live = true := by cases es <;> simp_all [Box.live]
  have hrun := run_overlaps_own (P := P) w tS tR e hund (fun w => run_size g1) ⟨blk, o, none⟩ base2 (xs.length + 1) cap n cap2 hsa hkA (by
    rcases k4 with k4 | ⟨rfl, k5, k6⟩
    · left; omega
    · rcases cx.box _ _ hbx with h0 | ⟨c3, e3, j1, j2⟩
      · exact absurd h0 hne
      · exact .inr ⟨_, c3, e3, rfl, rfl, fun heq => hok.2.2 b _ hbx hlive heq.symm, j1⟩)
  refine .inr ⟨.bool false, w, ?_, β, Ext.refl _ _ _, cx, by simp only [RepRes, RepA, RepD]⟩
  rw [run_callFunc_extern hf hname hb hn he]
  have e1 : (({ toList := [.slice (some ⟨blk, o, none⟩) ((x :: row) :: xs).length cap, .slice base2 n cap2] } : Array Value)) = #[.slice (some ⟨blk, o, none⟩) (xs.length + 1) cap, .slice base2 n cap2] := rfl
  rw [e1, hrun]
  rfl
end Dem
end
section
/- CONTRACTS: own rows are lent to a call that is handed other boxes too. -/
open Go
namespace Dem

section
variable {P : Program} {G : Nat → Option (List D)} {bx : List Box}
/-- OWN ROWS ARE LENT: the callee is handed the other boxes that it needs; the rest is hidden. -/
theorem fcalls_lend {f : Nat} {args args1 : List AV} {v : AV} (ks : List Bool) (hz : frzs bx args = some args1) (hn : AV.namesIn.namesIns (kill ks bx) args1 = true) (hl : looseBoxes (kill ks bx) (kill ks bx) = true)
    (hv : v.flat = true ∨ frzs [] args = some args1 ∧ v.shut = true) (h : FCalls P G f args1 (kill ks bx) (.ret v) (kill ks bx)) : FCalls P G f args bx (.ret v) bx := by
  intro β w vs X cx hx
  refine CallF.mono (calls_quiet cx hx ⟨args1, kill ks bx, hz, hn, hl, ?_, h, hv⟩) ?_
  · intro i b hi hborn
    obtain ⟨b0, h1, h2⟩ := kill_get ks bx i b hi
    rcases h2 with rfl | ⟨rfl, h3⟩
    · exact ⟨_, h1, hborn, fun _ => rfl⟩
    · exact ⟨b0, h1, h3, fun h => by simp [Box.live] at h⟩
  · rintro e w' ⟨u, rfl, h2, h3, h4⟩
    exact ⟨β, h2, h3, h4⟩

/-- a call to which own rows are lent, and that is handed the other boxes that it needs -/
theorem callL {t : Th} (ht : t = t0) {oks : Prop} {fz : Option (Prop × List AV)} {f : Nat} {args args1 args0 : List AV} {bx bx0 : List Box} {v : AV} {c : Prop} {K Kp : AV → List Box → Prop} (ks : List Bool) (sel : List Nat) (ho : oks)
    (hz : frzsT t bx args = some (c, args1)) (hc : c) (hn : AV.namesIn.namesIns (kill ks bx) args1 = true) (hl : looseBoxes (kill ks bx) (kill ks bx) = true) (hv : v.flat = true)
    (ha : AV.rens (fun b => idxIn b sel 0) args1 = some args0) (hb : renBoxes (fun b => idxIn b sel 0) (kill ks bx) sel = some bx0) (hb' : backS sel (kill ks bx) bx0 = some (kill ks bx)) (hr : Res.ren (backM sel (kill ks bx).length) (.ret v) = some (.ret v))
    (h : FCalls P G f args0 bx0 (.ret v) bx0) (hK : K v bx) : CallT (FCalls P G) oks f args fz bx K Kp := by
  subst ht
  exact callG ho (fcalls_lend ks (frzsT_frzs hz hc) hn hl (.inl hv) (fcalls_more sel ha hb hr hb' h)) hK
end
end Dem
end
section
/- THE CALCULUS FOR EVALUATION: calls whose results are told by one value; elements of told lists; rounds. -/
open Go
namespace Dem
abbrev TT (t : Th) : Prop := ∀ (α : Type) (f : Unit → α), t α f = f ()
theorem thE {t : Th} (ht : TT t) {α : Type} {e x : α} (h : e = x) : (t _ fun _ => e) = x := by rw [ht]; exact h

section
variable {P : Program} {G : Nat → Option (List D)} {FC : Nat → List AV → List Box → Res → List Box → Prop} {oks : Prop} {f : Nat} {args args' : List AV} {c : Prop} {bx : List Box} {K Kp : AV → List Box → Prop} {ρ : Type}
/-- flat result -/
theorem callEF {E : ρ → AV} {r0 : ρ} (ho : oks) (h : FC f args' [] (.ret (E r0)) []) (hc : c) (hs : AV.shut.shuts args' = true) (hf : (E r0).flat = true) (hK : ∀ r, r = r0 → K (E r) bx) : CallT FC oks f args (some (c, args')) bx K Kp :=
  callF ho h hc hs hf (hK _ rfl)
/-- data result, no own row among the arguments -/
theorem callES {E : ρ → AV} {r0 : ρ} (ho : oks) (h : FC f args' [] (.ret (E r0)) []) (hc : c) (hs : AV.shut.shuts args' = true) (hz : frzs [] args = some args') (hv : (E r0).shut = true) (hK : ∀ r, r = r0 → K (E r) bx) : CallT FC oks f args (some (c, args')) bx K Kp :=
  callS ho h hc hs hz hv (hK _ rfl)
theorem callEZ {E : ρ → AV} {r0 : ρ} {fz : Option (Prop × List AV)} {bx2 : List Box} (ho : oks) (hfz : fz = some (c, args')) (hc : c) (h : FC f args' (seals1 bx args) (.ret (E r0)) bx2) (hK : ∀ r, r = r0 → K (E r) bx2) : CallT FC oks f args fz bx K Kp :=
  callZ ho hfz hc h (hK _ rfl)
theorem callEQ {dr g : Bool} {K : AV → Prop} {E : ρ → AV} {r0 : ρ} (h : g = true → oks ∧ c ∧ FC f args' [] (.ret (E r0)) []) (hs : AV.namesIn.namesIns [] args' = true) (hf : (E r0).flat = true) (hK : ∀ r, r = r0 → K (E r)) : CallQT FC dr g oks f args bx (some (c, args')) K :=
  callQ h hs hf (hK _ rfl)
theorem callEQS {dr g : Bool} {K : AV → Prop} {E : ρ → AV} {r0 : ρ} (h : g = true → oks ∧ c ∧ FC f args' [] (.ret (E r0)) []) (hs : AV.namesIn.namesIns [] args' = true) (hz : frzs [] args = some args') (hf : (E r0).shut = true) (hK : ∀ r, r = r0 → K (E r)) : CallQT FC dr g oks f args bx (some (c, args')) K :=
  callQS h hs hz hf (hK _ rfl)
theorem callEQC {P : Program} {G : Nat → Option (List D)} {g : Bool} {K : AV → Prop} {fz : Option (Prop × List AV)} {args0 : List AV} {bx0 : List Box} {E : ρ → AV} {r0 : ρ} (sel : List Nat) (ho : g = true → oks ∧ FCalls P G f args0 bx0 (.ret (E r0)) bx0)
    (ha : AV.rens (fun b => idxIn b sel 0) args = some args0) (hb : renBoxes (fun b => idxIn b sel 0) bx sel = some bx0) (hb' : backS sel bx bx0 = some bx) (hr : Res.ren (backM sel bx.length) (.ret (E r0)) = some (.ret (E r0)))
    (hK : ∀ r, r = r0 → K (E r)) : CallQT (FCalls P G) false g oks f args bx fz K :=
  callQC sel ho ha hb hb' hr (hK _ rfl)
end

/-- an element of a told list -/
theorem idxM {t : Th} (ht : TT t) {α : Type} {l : List α} {cells cT : α → List D} {es : List (List D)} (hes : es = l.map cells) {z : Int} {n : Nat} {K : List D → Prop} (h0 : 0 ≤ z) (h1 : z < l.length) (hn : ∀ x, (cells x).length = n) (hT : ∀ x, cells x = cT x)
    (hK : ∀ x, l[z.toNat]? = some x → K (cT x)) : IdxWp true (t Prop fun _ => 0 ≤ z ∧ z < es.length ∧ ∀ r ∈ es, r.length = n) (t _ fun _ => es.getD z.toNat []) K := by
  have hz : z.toNat < l.length := by omega
  refine idxI (cT l[z.toNat]) ?_ ?_ (hK _ (List.getElem?_eq_getElem hz))
  · simp only [ht]; refine ⟨h0, by rw [hes, List.length_map]; exact h1, ?_⟩
    rw [hes]; intro r hr; obtain ⟨y, _, rfl⟩ := List.mem_map.1 hr; exact hn y
  · simp only [ht]; rw [hes, ← hT]; simp [hz]
theorem idxMG {t : Th} (ht : TT t) {α : Type} [Inhabited α] {l : List α} {cells cT : α → List D} {es : List (List D)} (hes : es = l.map cells) {g : Bool} {z : Int} {n : Nat} {K : List D → Prop} (h0 : g = true → 0 ≤ z ∧ z < l.length) (hn : ∀ x, (cells x).length = n) (hT : ∀ x, cells x = cT x)
    (hK : ∀ x, (g = true → l[z.toNat]? = some x) → K (cT x)) : IdxWp g (t Prop fun _ => 0 ≤ z ∧ z < es.length ∧ ∀ r ∈ es, r.length = n) (t _ fun _ => es.getD z.toNat []) K := by
  cases hg : g with
  | true =>
    subst hg
    exact idxM ht hes (h0 rfl).1 (h0 rfl).2 hn hT (fun x hx => hK x fun _ => hx)
  | false =>
    subst hg
    exact idxG (cT default) (fun h => Bool.noConfusion h) (hK default (fun h => Bool.noConfusion h))

/-- a round's end -/
theorem loopC {s : St} {n : Nat} {σ : Type} {J : Nat → σ → Prop} {F : σ → St} (v : σ) (hs : s = F v) (m : Nat) (hm : m < n) (hJ : J m v) : LoopIn (some s) (fun s3 => ∃ m v', (m < n ∧ J m v') ∧ s3 = F v') := loopIn (P := fun s3 => ∃ m v', (m < n ∧ J m v') ∧ s3 = F v') ⟨m, v, ⟨hm, hJ⟩, hs⟩
/-- room for one more -/
theorem apOk {α : Type} {l : List α} {cells : α → List D} {u : List (List D)} (hu : u = l.map cells) {row : List D} {sz b : Nat} (hn : ∀ x, (cells x).length = sz) (hr : row.length = sz) (hl : l.length < 1000000) (hb : b ≤ 10000) :
    u.length = u.length ∧ (u.length + [row].length) * b ≤ 140737488355328 ∧ ∀ r ∈ u ++ [row], r.length = sz := by
  refine ⟨rfl, ?_, ?_⟩
  · rw [hu, List.length_map]
    exact Nat.le_trans (Nat.mul_le_mul (show l.length + [row].length ≤ 1000000 by simp; omega) hb) (by decide)
  · intro r hr'
    rcases List.mem_append.1 hr' with h | h
    · rw [hu] at h; obtain ⟨y, _, rfl⟩ := List.mem_map.1 h; exact hn y
    · simp at h; subst h; exact hr
end Dem
end
