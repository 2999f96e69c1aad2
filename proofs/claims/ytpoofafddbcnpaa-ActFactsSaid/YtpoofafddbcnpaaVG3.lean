import Derived.Test.YtpoofafddbcnpaaVE34
import Derived.Test.YtpoofafddbcnpaaVVgLib
import Derived.Test.YtpoofafddbcnpaaProg
import Derived.KernelRfl
namespace Vg.G3
open Go Lg Go.RowKit
open Go.Proofs
-- gantry/gantkeep4.ActAll
def gantkeep4_ActAll_r0 : List LOper := [
  ⟨some 12, none, .mv false (.c (.bool false))⟩]
def gantkeep4_ActAll_r1 : List LOper := [
  ⟨some 16, none, .mv false (.t 0)⟩,
  ⟨some 17, none, .call false 10 [(.t 16)]⟩,
  ⟨some 18, none, .mv false (.t 1)⟩,
  ⟨some 19, none, .call false 9 [(.t 17), (.t 18)]⟩,
  ⟨some 13, none, .alloc [.int .i64 0, .nilslice, .nilslice, .nilslice]⟩,
  ⟨none, none, .store 4 (.t 13) (.t 19)⟩]
def gantkeep4_ActAll_r2 : List LOper := [
  ⟨some 20, none, .mv false (.t 2)⟩,
  ⟨some 21, none, .call false 30 [(.t 20), (.c (.int .i64 4))]⟩,
  ⟨some 22, none, .mv false (.t 3)⟩,
  ⟨some 23, none, .call false 30 [(.t 22), (.c (.int .i64 3))]⟩,
  ⟨some 24, none, .mv false (.t 4)⟩,
  ⟨some 25, none, .call false 30 [(.t 24), (.c (.int .i64 4))]⟩,
  ⟨some 26, none, .bin .sub (.t 25) (.c (.int .i64 1))⟩,
  ⟨some 27, none, .mv false (.t 5)⟩,
  ⟨some 28, none, .call false 30 [(.t 27), (.c (.int .i64 4))]⟩,
  ⟨some 29, none, .bin .sub (.t 28) (.c (.int .i64 1))⟩,
  ⟨some 30, none, .build [.int .i64 0, .int .i64 0, .int .i64 0, .int .i64 0, .int .i64 0] [(0, 1, (.t 21)), (1, 1, (.t 23)), (2, 1, (.t 26)), (3, 1, (.t 29))]⟩,
  ⟨some 14, none, .alloc [.int .i64 0, .int .i64 0, .int .i64 0, .int .i64 0, .int .i64 0]⟩,
  ⟨none, none, .store 5 (.t 14) (.t 30)⟩]
def gantkeep4_ActAll_r3 : List LOper := [
  ⟨some 31, none, .load false true 4 (.t 13)⟩,
  ⟨some 32, none, .call false 31 [(.t 31)]⟩,
  ⟨some 15, none, .mv false (.t 32)⟩]
def gantkeep4_ActAll_r4 : List LOper := [
  ⟨some 33, none, .call true 16 []⟩,
  ⟨some 34, none, .mv false (.t 33)⟩,
  ⟨some 35, some (34, true), .mv false (.t 15)⟩,
  ⟨some 36, some (34, true), .load false true 5 (.t 14)⟩,
  ⟨some 37, some (34, true), .call true 32 [(.t 35), (.t 36)]⟩,
  ⟨some 38, some (34, true), .load false true 4 (.t 13)⟩,
  ⟨some 39, some (34, true), .load false true 5 (.t 14)⟩,
  ⟨some 40, some (34, true), .call true 33 [(.t 38), (.t 39)]⟩,
  ⟨some 41, some (34, true), .bin .eql (.t 40) (.c (.int .i64 0))⟩,
  ⟨some 42, some (34, true), .eqv false .bool (.t 37) (.t 41)⟩,
  ⟨some 43, none, .pick (.t 34) (.t 42) (.c (.bool false))⟩,
  ⟨some 44, none, .mv false (.t 43)⟩,
  ⟨some 45, some (44, true), .mv false (.t 15)⟩,
  ⟨some 46, some (44, true), .call true 34 [(.t 45), (.c (.func 35 []))]⟩,
  ⟨some 47, none, .pick (.t 44) (.t 46) (.c (.bool false))⟩,
  ⟨some 12, none, .mv false (.t 47)⟩]
theorem gantkeep4_ActAll_r4_d : drawC [0, 1, 3, 3, 15, 3, 3, 127, 255, 511, 1023, 2047, 4095, 8191, 16383, 32767] [
  ⟨some 33, none, .call true 16 []⟩,
  ⟨some 34, none, .mv false (.t 33)⟩,
  ⟨some 35, some (34, true), .mv false (.t 15)⟩,
  ⟨some 36, some (34, true), .load false true 5 (.t 14)⟩,
  ⟨some 37, some (34, true), .call true 32 [(.t 35), (.t 36)]⟩,
  ⟨some 38, some (34, true), .load false true 4 (.t 13)⟩,
  ⟨some 39, some (34, true), .load false true 5 (.t 14)⟩,
  ⟨some 40, some (34, true), .call true 33 [(.t 38), (.t 39)]⟩,
  ⟨some 41, some (34, true), .bin .eql (.t 40) (.c (.int .i64 0))⟩,
  ⟨some 42, some (34, true), .eqv false .bool (.t 37) (.t 41)⟩,
  ⟨some 43, none, .pick (.t 34) (.t 42) (.c (.bool false))⟩,
  ⟨some 44, none, .mv false (.t 43)⟩,
  ⟨some 45, some (44, true), .mv false (.t 15)⟩,
  ⟨some 46, some (44, true), .call true 34 [(.t 45), (.c (.func 35 []))]⟩,
  ⟨some 47, none, .pick (.t 44) (.t 46) (.c (.bool false))⟩,
  ⟨some 12, none, .mv false (.t 47)⟩] = true := by kernel_rfl
def gantkeep4_ActAll_f : LFunc := ⟨48, 6, [.tmp 12], (.seq (.ops gantkeep4_ActAll_r0) (.seq (.ops gantkeep4_ActAll_r1) (.seq (.ops gantkeep4_ActAll_r2) (.seq (.ops gantkeep4_ActAll_r3) (.seq (.dops [0, 1, 3, 3, 15, 3, 3, 127, 255, 511, 1023, 2047, 4095, 8191, 16383, 32767] gantkeep4_ActAll_r4) .ret)))))⟩
def gantkeep4_ActAll_v : VFunc := ⟨gantkeep4_ActAll_f, true, false, false⟩
theorem gantkeep4_ActAll_ok : preFunc Try.prog ⟨[], [], [33, 37, 40, 46]⟩ Try.f6 [] = some gantkeep4_ActAll_f := by kernel_rfl

-- gantry/gantkeep4.ActKeeps
def gantkeep4_ActKeeps_r0 : List LOper := [
  ⟨some 4, none, .mv false (.c (.bool false))⟩]
def gantkeep4_ActKeeps_r1 : List LOper := [
  ⟨some 10, none, .mv false (.t 0)⟩,
  ⟨some 11, none, .call false 10 [(.t 10)]⟩,
  ⟨some 12, none, .mv false (.t 1)⟩,
  ⟨some 13, none, .call false 9 [(.t 11), (.t 12)]⟩,
  ⟨some 5, none, .alloc [.int .i64 0, .nilslice, .nilslice, .nilslice]⟩,
  ⟨none, none, .store 4 (.t 5) (.t 13)⟩]
def gantkeep4_ActKeeps_r2 : List LOper := [
  ⟨some 14, none, .call false 16 []⟩,
  ⟨some 15, none, .un .not (.t 14)⟩,
  ⟨some 16, none, .mv false (.t 15)⟩,
  ⟨some 17, some (16, false), .load false true 4 (.t 5)⟩,
  ⟨some 18, some (16, false), .call false 36 [(.t 17)]⟩,
  ⟨some 19, some (16, false), .bin .neq (.t 18) (.c (.int .i64 0))⟩,
  ⟨some 20, none, .pick (.t 16) (.c (.bool true)) (.t 19)⟩,
  ⟨some 21, none, .mv false (.t 20)⟩,
  ⟨some 22, some (21, false), .load false true 4 (.t 5)⟩,
  ⟨some 23, some (21, false), .call false 37 [(.t 22)]⟩,
  ⟨some 24, some (21, false), .call false 21 [(.t 23)]⟩,
  ⟨some 25, some (21, false), .un .not (.t 24)⟩,
  ⟨some 26, none, .pick (.t 21) (.c (.bool true)) (.t 25)⟩]
def gantkeep4_ActKeeps_r3 : List LOper := [
  ⟨some 4, none, .mv false (.c (.bool false))⟩]
def gantkeep4_ActKeeps_r4 : List LOper := [
  ⟨some 27, none, .load false true 4 (.t 5)⟩,
  ⟨some 28, none, .call false 31 [(.t 27)]⟩,
  ⟨some 29, none, .lenL (.t 28)⟩,
  ⟨some 30, none, .mv false (.c (.int .i64 0))⟩]
def gantkeep4_ActKeeps_r5 : List LOper := [
  ⟨some 31, none, .bin .lss (.t 30) (.t 29)⟩]
def gantkeep4_ActKeeps_r6 : List LOper := [
  ⟨some 32, none, .indexAddr 5 (.t 28) (.t 30)⟩,
  ⟨some 33, none, .load false true 5 (.t 32)⟩,
  ⟨some 7, none, .alloc [.int .i64 0, .int .i64 0, .int .i64 0, .int .i64 0, .int .i64 0]⟩,
  ⟨none, none, .store 5 (.t 7) (.t 33)⟩]
def gantkeep4_ActKeeps_r7 : List LOper := [
  ⟨some 35, none, .load false true 4 (.t 5)⟩,
  ⟨some 36, none, .load false true 5 (.t 7)⟩,
  ⟨some 37, none, .call false 38 [(.t 35), (.t 36)]⟩,
  ⟨some 34, none, .mv false (.t 37)⟩,
  ⟨some 38, none, .extract 0 (.t 34)⟩,
  ⟨some 39, none, .extract 1 (.t 34)⟩,
  ⟨some 8, none, .alloc [.int .i64 0, .nilslice, .nilslice, .nilslice]⟩,
  ⟨none, none, .store 4 (.t 8) (.t 38)⟩,
  ⟨some 9, none, .mv false (.t 39)⟩]
def gantkeep4_ActKeeps_r8 : List LOper := [
  ⟨some 40, none, .mv false (.t 9)⟩,
  ⟨some 41, none, .bin .neq (.t 40) (.c (.int .i64 0))⟩,
  ⟨some 42, none, .mv false (.t 41)⟩,
  ⟨some 43, some (42, false), .load false true 4 (.t 5)⟩,
  ⟨some 44, some (42, false), .load false true 5 (.t 7)⟩,
  ⟨some 45, some (42, false), .call false 33 [(.t 43), (.t 44)]⟩,
  ⟨some 46, some (42, false), .bin .neq (.t 45) (.c (.int .i64 0))⟩,
  ⟨some 47, none, .pick (.t 42) (.c (.bool true)) (.t 46)⟩,
  ⟨some 48, none, .mv false (.t 47)⟩,
  ⟨some 49, some (48, false), .load false true 4 (.t 8)⟩,
  ⟨some 50, some (48, false), .call false 36 [(.t 49)]⟩,
  ⟨some 51, some (48, false), .bin .neq (.t 50) (.c (.int .i64 0))⟩,
  ⟨some 52, none, .pick (.t 48) (.c (.bool true)) (.t 51)⟩,
  ⟨some 53, none, .mv false (.t 52)⟩,
  ⟨some 54, some (53, false), .load false true 4 (.t 8)⟩,
  ⟨some 55, some (53, false), .call false 37 [(.t 54)]⟩,
  ⟨some 56, some (53, false), .call false 21 [(.t 55)]⟩,
  ⟨some 57, some (53, false), .un .not (.t 56)⟩,
  ⟨some 58, none, .pick (.t 53) (.c (.bool true)) (.t 57)⟩,
  ⟨some 59, none, .mv false (.t 58)⟩,
  ⟨some 60, some (59, false), .load false true 4 (.t 5)⟩,
  ⟨some 61, some (59, false), .load false true 4 (.t 8)⟩,
  ⟨some 62, some (59, false), .call false 15 [(.t 60), (.t 61)]⟩,
  ⟨some 63, none, .pick (.t 59) (.c (.bool true)) (.t 62)⟩]
def gantkeep4_ActKeeps_r9 : List LOper := [
  ⟨some 4, none, .mv false (.c (.bool false))⟩]
def gantkeep4_ActKeeps_r10 : List LOper := [
  ⟨some 64, none, .bin .add (.t 30) (.c (.int .i64 1))⟩,
  ⟨some 30, none, .mv false (.t 64)⟩]
def gantkeep4_ActKeeps_b0 : LCode := (.seq (.ops gantkeep4_ActKeeps_r5) (.seq (.cond (.t 31) .skip (.exit 0)) (.seq (.block 1 (.seq (.ops gantkeep4_ActKeeps_r6) (.seq (.ops gantkeep4_ActKeeps_r7) (.seq (.ops gantkeep4_ActKeeps_r8) (.cond (.t 63) (.seq (.ops gantkeep4_ActKeeps_r9) .ret) .skip))))) (.ops gantkeep4_ActKeeps_r10))))
def gantkeep4_ActKeeps_r11 : List LOper := [
  ⟨some 4, none, .mv false (.c (.bool true))⟩]
def gantkeep4_ActKeeps_f : LFunc := ⟨65, 2, [.tmp 4], (.seq (.ops gantkeep4_ActKeeps_r0) (.seq (.ops gantkeep4_ActKeeps_r1) (.seq (.seq (.ops gantkeep4_ActKeeps_r2) (.cond (.t 26) (.seq (.ops gantkeep4_ActKeeps_r3) .ret) .skip)) (.seq (.seq (.ops gantkeep4_ActKeeps_r4) (.block 0 (.loop [5, 28, 29, 30] gantkeep4_ActKeeps_b0))) (.seq (.ops gantkeep4_ActKeeps_r11) .ret)))))⟩
def gantkeep4_ActKeeps_v : VFunc := ⟨gantkeep4_ActKeeps_f, true, false, false⟩
theorem gantkeep4_ActKeeps_ok : preFunc Try.prog ⟨[], [], []⟩ Try.f7 [[5, 28, 29, 30]] = some gantkeep4_ActKeeps_f := by kernel_rfl

-- gantry/gantkeep4.ActFacts
def gantkeep4_ActFacts_r0 : List LOper := [
  ⟨some 6, none, .mv false (.c (.bool false))⟩]
def gantkeep4_ActFacts_r1 : List LOper := [
  ⟨some 18, none, .mv false (.t 0)⟩,
  ⟨some 19, none, .call false 10 [(.t 18)]⟩,
  ⟨some 20, none, .mv false (.t 1)⟩,
  ⟨some 21, none, .call false 9 [(.t 19), (.t 20)]⟩,
  ⟨some 7, none, .alloc [.int .i64 0, .nilslice, .nilslice, .nilslice]⟩,
  ⟨none, none, .store 4 (.t 7) (.t 21)⟩]
def gantkeep4_ActFacts_r2 : List LOper := [
  ⟨some 22, none, .load false true 4 (.t 7)⟩,
  ⟨some 23, none, .call false 31 [(.t 22)]⟩,
  ⟨some 24, none, .mv false (.t 2)⟩,
  ⟨some 25, none, .call false 39 [(.t 23), (.t 24)]⟩,
  ⟨some 8, none, .alloc [.int .i64 0, .int .i64 0, .int .i64 0, .int .i64 0, .int .i64 0]⟩,
  ⟨none, none, .store 5 (.t 8) (.t 25)⟩]
def gantkeep4_ActFacts_r3 : List LOper := [
  ⟨some 26, none, .call false 16 []⟩,
  ⟨some 27, none, .un .not (.t 26)⟩,
  ⟨some 28, none, .mv false (.t 27)⟩,
  ⟨some 29, some (28, false), .load false true 5 (.t 8)⟩,
  ⟨some 30, some (28, false), .build [.int .i64 0, .int .i64 0, .int .i64 0, .int .i64 0, .int .i64 0] []⟩,
  ⟨some 31, some (28, false), .eqv false (.struct [.i, .i, .i, .i, .i]) (.t 29) (.t 30)⟩,
  ⟨some 32, none, .pick (.t 28) (.c (.bool true)) (.t 31)⟩]
def gantkeep4_ActFacts_r4 : List LOper := [
  ⟨some 33, none, .call false 16 []⟩,
  ⟨some 6, none, .mv false (.t 33)⟩]
def gantkeep4_ActFacts_r5 : List LOper := [
  ⟨some 35, none, .load false true 4 (.t 7)⟩,
  ⟨some 36, none, .load false true 5 (.t 8)⟩,
  ⟨some 37, none, .call false 38 [(.t 35), (.t 36)]⟩,
  ⟨some 34, none, .mv false (.t 37)⟩,
  ⟨some 38, none, .extract 0 (.t 34)⟩,
  ⟨some 39, none, .extract 1 (.t 34)⟩,
  ⟨some 9, none, .alloc [.int .i64 0, .nilslice, .nilslice, .nilslice]⟩,
  ⟨none, none, .store 4 (.t 9) (.t 38)⟩,
  ⟨some 10, none, .mv false (.t 39)⟩]
def gantkeep4_ActFacts_r6 : List LOper := [
  ⟨some 40, none, .load false true 4 (.t 7)⟩,
  ⟨some 41, none, .call true 37 [(.t 40)]⟩,
  ⟨some 42, none, .load false true 4 (.t 9)⟩,
  ⟨some 43, none, .call true 37 [(.t 42)]⟩,
  ⟨some 11, none, .mv false (.t 41)⟩,
  ⟨some 12, none, .mv false (.t 43)⟩]
theorem gantkeep4_ActFacts_r6_d : drawC [0, 1, 0, 7, 15, 31] [
  ⟨some 40, none, .load false true 4 (.t 7)⟩,
  ⟨some 41, none, .call true 37 [(.t 40)]⟩,
  ⟨some 42, none, .load false true 4 (.t 9)⟩,
  ⟨some 43, none, .call true 37 [(.t 42)]⟩,
  ⟨some 11, none, .mv false (.t 41)⟩,
  ⟨some 12, none, .mv false (.t 43)⟩] = true := by kernel_rfl
def gantkeep4_ActFacts_r7 : List LOper := [
  ⟨some 44, none, .mv false (.t 11)⟩,
  ⟨some 45, none, .mv false (.t 12)⟩,
  ⟨some 46, none, .call false 24 [(.t 44), (.t 45)]⟩,
  ⟨some 47, none, .mv false (.t 12)⟩,
  ⟨some 48, none, .mv false (.t 11)⟩,
  ⟨some 49, none, .call false 24 [(.t 47), (.t 48)]⟩,
  ⟨some 13, none, .mv false (.t 46)⟩,
  ⟨some 14, none, .mv false (.t 49)⟩]
def gantkeep4_ActFacts_r8 : List LOper := [
  ⟨some 50, none, .mv false (.t 10)⟩,
  ⟨some 51, none, .bin .neq (.t 50) (.c (.int .i64 0))⟩,
  ⟨some 52, none, .mv false (.t 51)⟩,
  ⟨some 53, some (52, false), .mv false (.t 11)⟩,
  ⟨some 54, some (52, false), .mv false (.t 13)⟩,
  ⟨some 55, some (52, false), .mv false (.t 14)⟩,
  ⟨some 56, some (52, false), .call false 29 [(.t 53), (.t 54), (.t 55)]⟩,
  ⟨some 57, some (52, false), .mv false (.t 12)⟩,
  ⟨some 58, some (52, false), .call false 26 [(.t 56), (.t 57)]⟩,
  ⟨some 59, some (52, false), .un .not (.t 58)⟩,
  ⟨some 60, none, .pick (.t 52) (.c (.bool true)) (.t 59)⟩,
  ⟨some 61, none, .mv false (.t 60)⟩,
  ⟨some 62, some (61, false), .mv false (.t 13)⟩,
  ⟨some 63, some (61, false), .lenL (.t 62)⟩,
  ⟨some 64, some (61, false), .mv false (.t 14)⟩,
  ⟨some 65, some (61, false), .lenL (.t 64)⟩,
  ⟨some 66, some (61, false), .bin .add (.t 63) (.t 65)⟩,
  ⟨some 67, some (61, false), .bin .eql (.t 66) (.c (.int .i64 0))⟩,
  ⟨some 68, none, .pick (.t 61) (.c (.bool true)) (.t 67)⟩]
def gantkeep4_ActFacts_r9 : List LOper := [
  ⟨some 6, none, .mv false (.c (.bool false))⟩]
def gantkeep4_ActFacts_r10 : List LOper := [
  ⟨some 69, none, .mv false (.t 13)⟩,
  ⟨some 70, none, .mv false (.t 14)⟩,
  ⟨some 71, none, .bslice false 2 1 [.nilslice, .nilslice] [(0, 1, (.t 69)), (1, 1, (.t 70))]⟩,
  ⟨some 72, none, .call false 40 [(.t 71)]⟩,
  ⟨some 73, none, .lenL (.t 72)⟩,
  ⟨some 74, none, .mv false (.c (.int .i64 0))⟩]
def gantkeep4_ActFacts_r11 : List LOper := [
  ⟨some 75, none, .bin .lss (.t 74) (.t 73)⟩]
def gantkeep4_ActFacts_r12 : List LOper := [
  ⟨some 76, none, .indexAddr 3 (.t 72) (.t 74)⟩,
  ⟨some 77, none, .load false true 3 (.t 76)⟩,
  ⟨some 16, none, .alloc [.int .i64 0, .int .i64 0, .int .i64 0]⟩,
  ⟨none, none, .store 3 (.t 16) (.t 77)⟩]
def gantkeep4_ActFacts_r13 : List LOper := [
  ⟨some 78, none, .fieldAddr 0 (.t 16)⟩,
  ⟨some 79, none, .load false false 1 (.t 78)⟩,
  ⟨some 80, none, .bin .eql (.t 79) (.c (.int .i64 2))⟩,
  ⟨some 81, none, .mv false (.t 80)⟩,
  ⟨some 82, some (81, false), .fieldAddr 0 (.t 16)⟩,
  ⟨some 83, some (81, false), .load false false 1 (.t 82)⟩,
  ⟨some 84, some (81, false), .bin .eql (.t 83) (.c (.int .i64 3))⟩,
  ⟨some 85, none, .pick (.t 81) (.c (.bool true)) (.t 84)⟩,
  ⟨some 86, none, .mv false (.t 85)⟩,
  ⟨some 87, some (86, false), .fieldAddr 0 (.t 16)⟩,
  ⟨some 88, some (86, false), .load false false 1 (.t 87)⟩,
  ⟨some 89, some (86, false), .bin .eql (.t 88) (.c (.int .i64 6))⟩,
  ⟨some 90, none, .pick (.t 86) (.c (.bool true)) (.t 89)⟩,
  ⟨some 17, none, .mv false (.t 90)⟩]
def gantkeep4_ActFacts_r14 : List LOper := [
  ⟨some 91, none, .mv false (.t 17)⟩,
  ⟨some 92, none, .mv false (.t 91)⟩,
  ⟨some 93, some (92, true), .fieldAddr 1 (.t 16)⟩,
  ⟨some 94, some (92, true), .load false false 1 (.t 93)⟩,
  ⟨some 95, some (92, true), .fieldAddr 1 (.t 8)⟩,
  ⟨some 96, some (92, true), .load false false 1 (.t 95)⟩,
  ⟨some 97, some (92, true), .bin .neq (.t 94) (.t 96)⟩,
  ⟨some 98, none, .pick (.t 92) (.t 97) (.c (.bool false))⟩]
def gantkeep4_ActFacts_r15 : List LOper := [
  ⟨some 6, none, .mv false (.c (.bool false))⟩]
def gantkeep4_ActFacts_r16 : List LOper := [
  ⟨some 99, none, .bin .add (.t 74) (.c (.int .i64 1))⟩,
  ⟨some 74, none, .mv false (.t 99)⟩]
def gantkeep4_ActFacts_b0 : LCode := (.seq (.ops gantkeep4_ActFacts_r11) (.seq (.cond (.t 75) .skip (.exit 0)) (.seq (.block 1 (.seq (.ops gantkeep4_ActFacts_r12) (.seq (.ops gantkeep4_ActFacts_r13) (.seq (.ops gantkeep4_ActFacts_r14) (.cond (.t 98) (.seq (.ops gantkeep4_ActFacts_r15) .ret) .skip))))) (.ops gantkeep4_ActFacts_r16))))
def gantkeep4_ActFacts_r17 : List LOper := [
  ⟨some 100, none, .mv false (.t 13)⟩,
  ⟨some 101, none, .lenL (.t 100)⟩,
  ⟨some 102, none, .bin .leq (.t 101) (.c (.int .i64 3))⟩,
  ⟨some 103, none, .mv false (.t 102)⟩,
  ⟨some 104, some (103, true), .mv false (.t 14)⟩,
  ⟨some 105, some (103, true), .lenL (.t 104)⟩,
  ⟨some 106, some (103, true), .bin .leq (.t 105) (.c (.int .i64 3))⟩,
  ⟨some 107, none, .pick (.t 103) (.t 106) (.c (.bool false))⟩,
  ⟨some 6, none, .mv false (.t 107)⟩]
def gantkeep4_ActFacts_f : LFunc := ⟨108, 3, [.tmp 6], (.seq (.ops gantkeep4_ActFacts_r0) (.seq (.ops gantkeep4_ActFacts_r1) (.seq (.ops gantkeep4_ActFacts_r2) (.seq (.seq (.ops gantkeep4_ActFacts_r3) (.cond (.t 32) (.seq (.ops gantkeep4_ActFacts_r4) .ret) .skip)) (.seq (.ops gantkeep4_ActFacts_r5) (.seq (.dops [0, 1, 0, 7, 15, 31] gantkeep4_ActFacts_r6) (.seq (.ops gantkeep4_ActFacts_r7) (.seq (.seq (.ops gantkeep4_ActFacts_r8) (.cond (.t 68) (.seq (.ops gantkeep4_ActFacts_r9) .ret) .skip)) (.seq (.seq (.ops gantkeep4_ActFacts_r10) (.block 0 (.loop [8, 13, 14, 72, 73, 74] gantkeep4_ActFacts_b0))) (.seq (.ops gantkeep4_ActFacts_r17) .ret))))))))))⟩
def gantkeep4_ActFacts_v : VFunc := ⟨gantkeep4_ActFacts_f, true, false, false⟩
theorem gantkeep4_ActFacts_ok : preFunc Try.prog ⟨[], [], [41, 43]⟩ Try.f8 [[8, 13, 14, 72, 73, 74]] = some gantkeep4_ActFacts_f := by kernel_rfl

-- gantry/gantkeep4.World
def gantkeep4_World_r0 : List LOper := [
  ⟨some 2, none, .box (.t 0)⟩,
  ⟨some 4, none, .alloc [.int .i64 0, .nilslice, .nilslice, .nilslice]⟩]
def gantkeep4_World_r1 : List LOper := [
  ⟨some 12, none, .mv false (.t 1)⟩,
  ⟨some 13, none, .build [.nilslice] [(0, 1, (.t 12))]⟩,
  ⟨some 14, none, .box (.t 13)⟩,
  ⟨some 5, none, .mv false (.t 14)⟩]
def gantkeep4_World_r2 : List LOper := [
  ⟨some 15, none, .fieldAddr 3 (.t 2)⟩,
  ⟨some 16, none, .load false false 1 (.t 15)⟩,
  ⟨some 17, none, .lenL (.t 16)⟩,
  ⟨some 18, none, .build [.int .i64 0, .nilslice, .nilslice, .nilslice] [(0, 1, (.t 17))]⟩,
  ⟨some 6, none, .alloc [.int .i64 0, .nilslice, .nilslice, .nilslice]⟩,
  ⟨none, none, .store 4 (.t 6) (.t 18)⟩]
def gantkeep4_World_r3 : List LOper := [
  ⟨some 19, none, .mkmap⟩,
  ⟨some 7, none, .mv false (.t 19)⟩]
def gantkeep4_World_r4 : List LOper := [
  ⟨some 20, none, .fieldAddr 2 (.t 2)⟩,
  ⟨some 21, none, .load false false 1 (.t 20)⟩,
  ⟨some 22, none, .lenL (.t 21)⟩,
  ⟨some 23, none, .mv false (.c (.int .i64 0))⟩]
def gantkeep4_World_r5 : List LOper := [
  ⟨some 24, none, .bin .lss (.t 23) (.t 22)⟩]
def gantkeep4_World_r6 : List LOper := [
  ⟨some 8, none, .mv false (.c (.int .i64 (-1)))⟩]
def gantkeep4_World_r7 : List LOper := [
  ⟨some 25, none, .mv false (.t 5)⟩,
  ⟨some 26, none, .fieldAddr 3 (.t 2)⟩,
  ⟨some 27, none, .load false false 1 (.t 26)⟩,
  ⟨some 28, none, .lenL (.t 27)⟩,
  ⟨some 29, none, .fieldAddr 0 (.t 2)⟩,
  ⟨some 30, none, .load false false 1 (.t 29)⟩,
  ⟨some 31, none, .lenL (.t 30)⟩,
  ⟨some 32, none, .bin .add (.t 28) (.t 31)⟩,
  ⟨some 33, none, .bin .add (.t 32) (.c (.int .i64 1))⟩,
  ⟨some 34, none, .call false 41 [(.t 25), (.t 33)]⟩,
  ⟨some 9, none, .mv false (.t 34)⟩]
def gantkeep4_World_r8 : List LOper := [
  ⟨some 35, none, .mv false (.t 9)⟩,
  ⟨some 36, none, .fieldAddr 3 (.t 2)⟩,
  ⟨some 37, none, .load false false 1 (.t 36)⟩,
  ⟨some 38, none, .lenL (.t 37)⟩,
  ⟨some 39, none, .bin .lss (.t 35) (.t 38)⟩]
def gantkeep4_World_r9 : List LOper := [
  ⟨some 40, none, .mv false (.t 9)⟩,
  ⟨some 8, none, .mv false (.t 40)⟩]
def gantkeep4_World_r10 : List LOper := [
  ⟨some 41, none, .mv false (.t 9)⟩,
  ⟨some 42, none, .fieldAddr 3 (.t 2)⟩,
  ⟨some 43, none, .load false false 1 (.t 42)⟩,
  ⟨some 44, none, .lenL (.t 43)⟩,
  ⟨some 45, none, .fieldAddr 0 (.t 2)⟩,
  ⟨some 46, none, .load false false 1 (.t 45)⟩,
  ⟨some 47, none, .lenL (.t 46)⟩,
  ⟨some 48, none, .bin .add (.t 44) (.t 47)⟩,
  ⟨some 49, none, .bin .lss (.t 41) (.t 48)⟩]
def gantkeep4_World_r11 : List LOper := [
  ⟨some 50, none, .mv false (.t 9)⟩,
  ⟨some 51, none, .fieldAddr 3 (.t 2)⟩,
  ⟨some 52, none, .load false false 1 (.t 51)⟩,
  ⟨some 53, none, .lenL (.t 52)⟩,
  ⟨some 54, none, .bin .sub (.t 50) (.t 53)⟩,
  ⟨some 55, none, .bin .sub (.c (.int .i64 (-2))) (.t 54)⟩,
  ⟨some 8, none, .mv false (.t 55)⟩]
def gantkeep4_World_r12 : List LOper := [
  ⟨some 56, none, .mv false (.t 7)⟩,
  ⟨some 57, none, .mv false (.t 8)⟩,
  ⟨some 58, none, .lookup (.bool false) false (.t 56) (.t 57)⟩]
def gantkeep4_World_r13 : List LOper := [
  ⟨some 8, none, .mv false (.c (.int .i64 (-1)))⟩]
def gantkeep4_World_r14 : List LOper := [
  ⟨some 59, none, .mv false (.t 7)⟩,
  ⟨some 60, none, .mv false (.t 8)⟩,
  ⟨some 61, none, .mv false (.t 8)⟩,
  ⟨some 62, none, .bin .neq (.t 61) (.c (.int .i64 (-1)))⟩,
  ⟨none, none, .update (.t 59) (.t 60) (.t 62)⟩]
def gantkeep4_World_r15 : List LOper := [
  ⟨some 63, none, .fieldAddr 1 (.t 6)⟩,
  ⟨some 64, none, .load true false 1 (.t 63)⟩,
  ⟨some 65, none, .mv false (.t 8)⟩,
  ⟨some 66, none, .bslice false 1 1 [.int .i64 0] [(0, 1, (.t 65))]⟩,
  ⟨some 67, none, .append true 1 8 (.t 64) (.t 66)⟩,
  ⟨some 68, none, .fieldAddr 1 (.t 6)⟩,
  ⟨none, none, .store 1 (.t 68) (.t 67)⟩]
def gantkeep4_World_r16 : List LOper := [
  ⟨some 69, none, .fieldAddr 2 (.t 6)⟩,
  ⟨some 70, none, .load true false 1 (.t 69)⟩,
  ⟨some 71, none, .mv false (.t 5)⟩,
  ⟨some 72, none, .call false 41 [(.t 71), (.c (.int .i64 2))]⟩,
  ⟨some 73, none, .bin .eql (.t 72) (.c (.int .i64 1))⟩,
  ⟨some 74, none, .bslice false 1 1 [.bool false] [(0, 1, (.t 73))]⟩,
  ⟨some 75, none, .append true 1 1 (.t 70) (.t 74)⟩,
  ⟨some 76, none, .fieldAddr 2 (.t 6)⟩,
  ⟨none, none, .store 1 (.t 76) (.t 75)⟩]
theorem gantkeep4_World_r16_d : drawC [0, 1, 0, 4, 12, 28, 63, 127, 255] [
  ⟨some 69, none, .fieldAddr 2 (.t 6)⟩,
  ⟨some 70, none, .load true false 1 (.t 69)⟩,
  ⟨some 71, none, .mv false (.t 5)⟩,
  ⟨some 72, none, .call false 41 [(.t 71), (.c (.int .i64 2))]⟩,
  ⟨some 73, none, .bin .eql (.t 72) (.c (.int .i64 1))⟩,
  ⟨some 74, none, .bslice false 1 1 [.bool false] [(0, 1, (.t 73))]⟩,
  ⟨some 75, none, .append true 1 1 (.t 70) (.t 74)⟩,
  ⟨some 76, none, .fieldAddr 2 (.t 6)⟩,
  ⟨none, none, .store 1 (.t 76) (.t 75)⟩] = false ∧ drawW [0, 1, 0, 4, 12, 28, 63, 127, 255] [
  ⟨some 69, none, .fieldAddr 2 (.t 6)⟩,
  ⟨some 70, none, .load true false 1 (.t 69)⟩,
  ⟨some 71, none, .mv false (.t 5)⟩,
  ⟨some 72, none, .call false 41 [(.t 71), (.c (.int .i64 2))]⟩,
  ⟨some 73, none, .bin .eql (.t 72) (.c (.int .i64 1))⟩,
  ⟨some 74, none, .bslice false 1 1 [.bool false] [(0, 1, (.t 73))]⟩,
  ⟨some 75, none, .append true 1 1 (.t 70) (.t 74)⟩,
  ⟨some 76, none, .fieldAddr 2 (.t 6)⟩,
  ⟨none, none, .store 1 (.t 76) (.t 75)⟩] = false ∧ badPair [0, 1, 0, 4, 12, 28, 63, 127, 255] [
  ⟨some 69, none, .fieldAddr 2 (.t 6)⟩,
  ⟨some 70, none, .load true false 1 (.t 69)⟩,
  ⟨some 71, none, .mv false (.t 5)⟩,
  ⟨some 72, none, .call false 41 [(.t 71), (.c (.int .i64 2))]⟩,
  ⟨some 73, none, .bin .eql (.t 72) (.c (.int .i64 1))⟩,
  ⟨some 74, none, .bslice false 1 1 [.bool false] [(0, 1, (.t 73))]⟩,
  ⟨some 75, none, .append true 1 1 (.t 70) (.t 74)⟩,
  ⟨some 76, none, .fieldAddr 2 (.t 6)⟩,
  ⟨none, none, .store 1 (.t 76) (.t 75)⟩] = some (1, 3) ∧ drawX [0, 1, 0, 4, 12, 28, 63, 127, 255] [
  ⟨some 69, none, .fieldAddr 2 (.t 6)⟩,
  ⟨some 70, none, .load true false 1 (.t 69)⟩,
  ⟨some 71, none, .mv false (.t 5)⟩,
  ⟨some 72, none, .call false 41 [(.t 71), (.c (.int .i64 2))]⟩,
  ⟨some 73, none, .bin .eql (.t 72) (.c (.int .i64 1))⟩,
  ⟨some 74, none, .bslice false 1 1 [.bool false] [(0, 1, (.t 73))]⟩,
  ⟨some 75, none, .append true 1 1 (.t 70) (.t 74)⟩,
  ⟨some 76, none, .fieldAddr 2 (.t 6)⟩,
  ⟨none, none, .store 1 (.t 76) (.t 75)⟩] 1 3 = true ∧ moveTo 1 3 [
  ⟨some 69, none, .fieldAddr 2 (.t 6)⟩,
  ⟨some 70, none, .load true false 1 (.t 69)⟩,
  ⟨some 71, none, .mv false (.t 5)⟩,
  ⟨some 72, none, .call false 41 [(.t 71), (.c (.int .i64 2))]⟩,
  ⟨some 73, none, .bin .eql (.t 72) (.c (.int .i64 1))⟩,
  ⟨some 74, none, .bslice false 1 1 [.bool false] [(0, 1, (.t 73))]⟩,
  ⟨some 75, none, .append true 1 1 (.t 70) (.t 74)⟩,
  ⟨some 76, none, .fieldAddr 2 (.t 6)⟩,
  ⟨none, none, .store 1 (.t 76) (.t 75)⟩] = [
  ⟨some 69, none, .fieldAddr 2 (.t 6)⟩,
  ⟨some 71, none, .mv false (.t 5)⟩,
  ⟨some 72, none, .call false 41 [(.t 71), (.c (.int .i64 2))]⟩,
  ⟨some 70, none, .load true false 1 (.t 69)⟩,
  ⟨some 73, none, .bin .eql (.t 72) (.c (.int .i64 1))⟩,
  ⟨some 74, none, .bslice false 1 1 [.bool false] [(0, 1, (.t 73))]⟩,
  ⟨some 75, none, .append true 1 1 (.t 70) (.t 74)⟩,
  ⟨some 76, none, .fieldAddr 2 (.t 6)⟩,
  ⟨none, none, .store 1 (.t 76) (.t 75)⟩] := ⟨by kernel_rfl, by kernel_rfl, by kernel_rfl, by kernel_rfl, by kernel_rfl⟩
def gantkeep4_World_r17 : List LOper := [
  ⟨some 77, none, .bin .add (.t 23) (.c (.int .i64 1))⟩,
  ⟨some 23, none, .mv false (.t 77)⟩]
def gantkeep4_World_b0 : LCode := (.seq (.ops gantkeep4_World_r5) (.seq (.cond (.t 24) .skip (.exit 0)) (.seq (.block 1 (.seq (.ops gantkeep4_World_r6) (.seq (.seq (.ops gantkeep4_World_r7) (.seq (.ops gantkeep4_World_r8) (.cond (.t 39) (.ops gantkeep4_World_r9) (.seq (.ops gantkeep4_World_r10) (.cond (.t 49) (.ops gantkeep4_World_r11) .skip))))) (.seq (.seq (.ops gantkeep4_World_r12) (.cond (.t 58) (.ops gantkeep4_World_r13) .skip)) (.seq (.ops gantkeep4_World_r14) (.seq (.ops gantkeep4_World_r15) (.dops [0, 1, 0, 4, 12, 28, 63, 127, 255] gantkeep4_World_r16))))))) (.ops gantkeep4_World_r17))))
def gantkeep4_World_r18 : List LOper := [
  ⟨some 78, none, .mkmap⟩,
  ⟨some 10, none, .mv false (.t 78)⟩]
def gantkeep4_World_r19 : List LOper := [
  ⟨some 79, none, .fieldAddr 0 (.t 2)⟩,
  ⟨some 80, none, .load false false 1 (.t 79)⟩,
  ⟨some 81, none, .lenL (.t 80)⟩,
  ⟨some 82, none, .mv false (.c (.int .i64 0))⟩]
def gantkeep4_World_r20 : List LOper := [
  ⟨some 83, none, .bin .lss (.t 82) (.t 81)⟩]
def gantkeep4_World_r21 : List LOper := [
  ⟨some 84, none, .mv false (.t 5)⟩,
  ⟨some 85, none, .fieldAddr 3 (.t 2)⟩,
  ⟨some 86, none, .load false false 1 (.t 85)⟩,
  ⟨some 87, none, .lenL (.t 86)⟩,
  ⟨some 88, none, .fieldAddr 2 (.t 2)⟩,
  ⟨some 89, none, .load false false 1 (.t 88)⟩,
  ⟨some 90, none, .lenL (.t 89)⟩,
  ⟨some 91, none, .bin .add (.t 87) (.t 90)⟩,
  ⟨some 92, none, .bin .add (.t 91) (.c (.int .i64 1))⟩,
  ⟨some 93, none, .call false 41 [(.t 84), (.t 92)]⟩,
  ⟨some 11, none, .mv false (.t 93)⟩]
def gantkeep4_World_r22 : List LOper := [
  ⟨some 95, none, .mv false (.t 11)⟩,
  ⟨some 96, none, .fieldAddr 3 (.t 2)⟩,
  ⟨some 97, none, .load false false 1 (.t 96)⟩,
  ⟨some 98, none, .lenL (.t 97)⟩,
  ⟨some 99, none, .fieldAddr 2 (.t 2)⟩,
  ⟨some 100, none, .load false false 1 (.t 99)⟩,
  ⟨some 101, none, .lenL (.t 100)⟩,
  ⟨some 102, none, .bin .add (.t 98) (.t 101)⟩,
  ⟨some 103, none, .bin .geq (.t 95) (.t 102)⟩,
  ⟨some 94, none, .mv false (.t 103)⟩]
def gantkeep4_World_r23 : List LOper := [
  ⟨some 11, none, .mv false (.c (.int .i64 (-1)))⟩]
def gantkeep4_World_r24 : List LOper := [
  ⟨some 105, none, .mv false (.t 11)⟩,
  ⟨some 106, none, .fieldAddr 3 (.t 2)⟩,
  ⟨some 107, none, .load false false 1 (.t 106)⟩,
  ⟨some 108, none, .lenL (.t 107)⟩,
  ⟨some 109, none, .bin .geq (.t 105) (.t 108)⟩,
  ⟨some 104, none, .mv false (.t 109)⟩]
def gantkeep4_World_r25 : List LOper := [
  ⟨some 110, none, .mv false (.t 11)⟩,
  ⟨some 111, none, .fieldAddr 3 (.t 2)⟩,
  ⟨some 112, none, .load false false 1 (.t 111)⟩,
  ⟨some 113, none, .lenL (.t 112)⟩,
  ⟨some 114, none, .bin .sub (.c (.int .i64 8)) (.t 113)⟩,
  ⟨some 115, none, .bin .add (.t 110) (.t 114)⟩,
  ⟨some 11, none, .mv false (.t 115)⟩]
def gantkeep4_World_r26 : List LOper := [
  ⟨some 116, none, .mv false (.t 10)⟩,
  ⟨some 117, none, .mv false (.t 11)⟩,
  ⟨some 118, none, .lookup (.bool false) false (.t 116) (.t 117)⟩]
def gantkeep4_World_r27 : List LOper := [
  ⟨some 11, none, .mv false (.c (.int .i64 (-1)))⟩]
def gantkeep4_World_r28 : List LOper := [
  ⟨some 119, none, .mv false (.t 10)⟩,
  ⟨some 120, none, .mv false (.t 11)⟩,
  ⟨some 121, none, .mv false (.t 11)⟩,
  ⟨some 122, none, .bin .neq (.t 121) (.c (.int .i64 (-1)))⟩,
  ⟨none, none, .update (.t 119) (.t 120) (.t 122)⟩]
def gantkeep4_World_r29 : List LOper := [
  ⟨some 123, none, .fieldAddr 3 (.t 6)⟩,
  ⟨some 124, none, .load true false 1 (.t 123)⟩,
  ⟨some 125, none, .mv false (.t 11)⟩,
  ⟨some 126, none, .bslice false 1 1 [.int .i64 0] [(0, 1, (.t 125))]⟩,
  ⟨some 127, none, .append true 1 8 (.t 124) (.t 126)⟩,
  ⟨some 128, none, .fieldAddr 3 (.t 6)⟩,
  ⟨none, none, .store 1 (.t 128) (.t 127)⟩]
def gantkeep4_World_r30 : List LOper := [
  ⟨some 129, none, .bin .add (.t 82) (.c (.int .i64 1))⟩,
  ⟨some 82, none, .mv false (.t 129)⟩]
def gantkeep4_World_b1 : LCode := (.seq (.ops gantkeep4_World_r20) (.seq (.cond (.t 83) .skip (.exit 2)) (.seq (.block 3 (.seq (.ops gantkeep4_World_r21) (.seq (.block 4 (.seq (.ops gantkeep4_World_r22) (.cond (.t 94) (.ops gantkeep4_World_r23) (.seq (.ops gantkeep4_World_r24) (.cond (.t 104) (.ops gantkeep4_World_r25) .skip))))) (.seq (.seq (.ops gantkeep4_World_r26) (.cond (.t 118) (.ops gantkeep4_World_r27) .skip)) (.seq (.ops gantkeep4_World_r28) (.ops gantkeep4_World_r29)))))) (.ops gantkeep4_World_r30))))
def gantkeep4_World_r31 : List LOper := [
  ⟨some 130, none, .load false true 4 (.t 6)⟩,
  ⟨none, none, .store 4 (.t 4) (.t 130)⟩]
def gantkeep4_World_f : LFunc := ⟨131, 2, [.cell 4 true 4], (.seq (.ops gantkeep4_World_r0) (.seq (.ops gantkeep4_World_r1) (.seq (.ops gantkeep4_World_r2) (.seq (.ops gantkeep4_World_r3) (.seq (.seq (.ops gantkeep4_World_r4) (.block 0 (.loop [2, 4, 5, 6, 7, 22, 23] gantkeep4_World_b0))) (.seq (.ops gantkeep4_World_r18) (.seq (.seq (.ops gantkeep4_World_r19) (.block 2 (.loop [2, 4, 5, 6, 10, 81, 82] gantkeep4_World_b1))) (.seq (.ops gantkeep4_World_r31) .ret))))))))⟩
def gantkeep4_World_v : VFunc := ⟨gantkeep4_World_f, true, false, false⟩
theorem gantkeep4_World_ok : preFunc Try.prog ⟨[64, 70, 124], [], []⟩ Try.f9 [[2, 4, 5, 6, 7, 22, 23], [2, 4, 5, 6, 10, 81, 82]] = some gantkeep4_World_f := by kernel_rfl

-- gantry/gantkeep4.Small
def gantkeep4_Small_r0 : List LOper := [
  ⟨some 2, none, .alloc [.nilslice, .nilslice, .nilslice, .nilslice, .nilslice, .bool false, .str [], .str []]⟩]
def gantkeep4_Small_r1 : List LOper := [
  ⟨some 8, none, .mv false (.t 0)⟩,
  ⟨some 9, none, .build [.nilslice] [(0, 1, (.t 8))]⟩,
  ⟨some 10, none, .box (.t 9)⟩,
  ⟨some 3, none, .mv false (.t 10)⟩]
def gantkeep4_Small_r2 : List LOper := [
  ⟨some 4, none, .alloc [.nilslice, .nilslice, .nilslice, .nilslice, .nilslice, .bool false, .str [], .str []]⟩]
def gantkeep4_Small_r3 : List LOper := [
  ⟨some 11, none, .mv false (.t 3)⟩,
  ⟨some 12, none, .call false 41 [(.t 11), (.c (.int .i64 2))]⟩,
  ⟨some 13, none, .bin .add (.c (.int .i64 1)) (.t 12)⟩,
  ⟨some 14, none, .mv false (.c (.int .i64 0))⟩]
def gantkeep4_Small_r4 : List LOper := [
  ⟨some 15, none, .bin .lss (.t 14) (.t 13)⟩]
def gantkeep4_Small_r5 : List LOper := [
  ⟨some 16, none, .mv false (.t 14)⟩,
  ⟨some 5, none, .mv false (.t 16)⟩]
def gantkeep4_Small_r6 : List LOper := [
  ⟨some 17, none, .fieldAddr 0 (.t 4)⟩,
  ⟨some 18, none, .load true false 1 (.t 17)⟩,
  ⟨some 19, none, .bslice false 2 1 [.str [], .str []] [(0, 1, (.c (.str [97, 110, 110]))), (1, 1, (.c (.str [98, 111, 98])))]⟩,
  ⟨some 20, none, .mv false (.t 5)⟩,
  ⟨some 21, none, .indexAddr 1 (.t 19) (.t 20)⟩,
  ⟨some 22, none, .load false false 1 (.t 21)⟩,
  ⟨some 23, none, .build [.str [], .bool false, .str [], .str [], .bool false, .str [], .str [], .bool false, .bool false, .str [], .str [], .nilslice] [(0, 1, (.t 22))]⟩,
  ⟨some 24, none, .bslice false 1 12 [.str [], .bool false, .str [], .str [], .bool false, .str [], .str [], .bool false, .bool false, .str [], .str [], .nilslice] [(0, 12, (.t 23))]⟩,
  ⟨some 25, none, .append true 12 168 (.t 18) (.t 24)⟩,
  ⟨some 26, none, .fieldAddr 0 (.t 4)⟩,
  ⟨none, none, .store 1 (.t 26) (.t 25)⟩]
theorem gantkeep4_Small_r6_d : drawC [0, 1, 0, 0, 12, 28, 60, 124, 255, 511, 1023] [
  ⟨some 17, none, .fieldAddr 0 (.t 4)⟩,
  ⟨some 18, none, .load true false 1 (.t 17)⟩,
  ⟨some 19, none, .bslice false 2 1 [.str [], .str []] [(0, 1, (.c (.str [97, 110, 110]))), (1, 1, (.c (.str [98, 111, 98])))]⟩,
  ⟨some 20, none, .mv false (.t 5)⟩,
  ⟨some 21, none, .indexAddr 1 (.t 19) (.t 20)⟩,
  ⟨some 22, none, .load false false 1 (.t 21)⟩,
  ⟨some 23, none, .build [.str [], .bool false, .str [], .str [], .bool false, .str [], .str [], .bool false, .bool false, .str [], .str [], .nilslice] [(0, 1, (.t 22))]⟩,
  ⟨some 24, none, .bslice false 1 12 [.str [], .bool false, .str [], .str [], .bool false, .str [], .str [], .bool false, .bool false, .str [], .str [], .nilslice] [(0, 12, (.t 23))]⟩,
  ⟨some 25, none, .append true 12 168 (.t 18) (.t 24)⟩,
  ⟨some 26, none, .fieldAddr 0 (.t 4)⟩,
  ⟨none, none, .store 1 (.t 26) (.t 25)⟩] = false ∧ drawW [0, 1, 0, 0, 12, 28, 60, 124, 255, 511, 1023] [
  ⟨some 17, none, .fieldAddr 0 (.t 4)⟩,
  ⟨some 18, none, .load true false 1 (.t 17)⟩,
  ⟨some 19, none, .bslice false 2 1 [.str [], .str []] [(0, 1, (.c (.str [97, 110, 110]))), (1, 1, (.c (.str [98, 111, 98])))]⟩,
  ⟨some 20, none, .mv false (.t 5)⟩,
  ⟨some 21, none, .indexAddr 1 (.t 19) (.t 20)⟩,
  ⟨some 22, none, .load false false 1 (.t 21)⟩,
  ⟨some 23, none, .build [.str [], .bool false, .str [], .str [], .bool false, .str [], .str [], .bool false, .bool false, .str [], .str [], .nilslice] [(0, 1, (.t 22))]⟩,
  ⟨some 24, none, .bslice false 1 12 [.str [], .bool false, .str [], .str [], .bool false, .str [], .str [], .bool false, .bool false, .str [], .str [], .nilslice] [(0, 12, (.t 23))]⟩,
  ⟨some 25, none, .append true 12 168 (.t 18) (.t 24)⟩,
  ⟨some 26, none, .fieldAddr 0 (.t 4)⟩,
  ⟨none, none, .store 1 (.t 26) (.t 25)⟩] = true := ⟨by kernel_rfl, by kernel_rfl⟩
def gantkeep4_Small_r7 : List LOper := [
  ⟨some 27, none, .bin .add (.t 14) (.c (.int .i64 1))⟩,
  ⟨some 14, none, .mv false (.t 27)⟩]
def gantkeep4_Small_b0 : LCode := (.seq (.ops gantkeep4_Small_r4) (.seq (.cond (.t 15) .skip (.exit 0)) (.seq (.block 1 (.seq (.ops gantkeep4_Small_r5) (.dops [0, 1, 0, 0, 12, 28, 60, 124, 255, 511, 1023] gantkeep4_Small_r6))) (.ops gantkeep4_Small_r7))))
def gantkeep4_Small_r8 : List LOper := [
  ⟨some 28, none, .mv false (.t 3)⟩,
  ⟨some 29, none, .call false 41 [(.t 28), (.c (.int .i64 2))]⟩,
  ⟨some 30, none, .bin .add (.c (.int .i64 1)) (.t 29)⟩,
  ⟨some 31, none, .mv false (.c (.int .i64 0))⟩]
def gantkeep4_Small_r9 : List LOper := [
  ⟨some 32, none, .bin .lss (.t 31) (.t 30)⟩]
def gantkeep4_Small_r10 : List LOper := [
  ⟨some 33, none, .mv false (.t 31)⟩,
  ⟨some 6, none, .mv false (.t 33)⟩]
def gantkeep4_Small_r11 : List LOper := [
  ⟨some 34, none, .fieldAddr 2 (.t 4)⟩,
  ⟨some 35, none, .load true false 1 (.t 34)⟩,
  ⟨some 36, none, .bslice false 2 1 [.str [], .str []] [(0, 1, (.c (.str [98, 111, 108, 116]))), (1, 1, (.c (.str [110, 117, 116])))]⟩,
  ⟨some 37, none, .mv false (.t 6)⟩,
  ⟨some 38, none, .indexAddr 1 (.t 36) (.t 37)⟩,
  ⟨some 39, none, .load false false 1 (.t 38)⟩,
  ⟨some 40, none, .build [.str [], .nilslice, .bool false, .str [], .str [], .bool false, .str [], .str [], .bool false, .bool false, .str [], .str []] [(0, 1, (.t 39))]⟩,
  ⟨some 41, none, .bslice false 1 12 [.str [], .nilslice, .bool false, .str [], .str [], .bool false, .str [], .str [], .bool false, .bool false, .str [], .str []] [(0, 12, (.t 40))]⟩,
  ⟨some 42, none, .append true 12 168 (.t 35) (.t 41)⟩,
  ⟨some 43, none, .fieldAddr 2 (.t 4)⟩,
  ⟨none, none, .store 1 (.t 43) (.t 42)⟩]
theorem gantkeep4_Small_r11_d : drawC [0, 1, 0, 0, 12, 28, 60, 124, 255, 511, 1023] [
  ⟨some 34, none, .fieldAddr 2 (.t 4)⟩,
  ⟨some 35, none, .load true false 1 (.t 34)⟩,
  ⟨some 36, none, .bslice false 2 1 [.str [], .str []] [(0, 1, (.c (.str [98, 111, 108, 116]))), (1, 1, (.c (.str [110, 117, 116])))]⟩,
  ⟨some 37, none, .mv false (.t 6)⟩,
  ⟨some 38, none, .indexAddr 1 (.t 36) (.t 37)⟩,
  ⟨some 39, none, .load false false 1 (.t 38)⟩,
  ⟨some 40, none, .build [.str [], .nilslice, .bool false, .str [], .str [], .bool false, .str [], .str [], .bool false, .bool false, .str [], .str []] [(0, 1, (.t 39))]⟩,
  ⟨some 41, none, .bslice false 1 12 [.str [], .nilslice, .bool false, .str [], .str [], .bool false, .str [], .str [], .bool false, .bool false, .str [], .str []] [(0, 12, (.t 40))]⟩,
  ⟨some 42, none, .append true 12 168 (.t 35) (.t 41)⟩,
  ⟨some 43, none, .fieldAddr 2 (.t 4)⟩,
  ⟨none, none, .store 1 (.t 43) (.t 42)⟩] = false ∧ drawW [0, 1, 0, 0, 12, 28, 60, 124, 255, 511, 1023] [
  ⟨some 34, none, .fieldAddr 2 (.t 4)⟩,
  ⟨some 35, none, .load true false 1 (.t 34)⟩,
  ⟨some 36, none, .bslice false 2 1 [.str [], .str []] [(0, 1, (.c (.str [98, 111, 108, 116]))), (1, 1, (.c (.str [110, 117, 116])))]⟩,
  ⟨some 37, none, .mv false (.t 6)⟩,
  ⟨some 38, none, .indexAddr 1 (.t 36) (.t 37)⟩,
  ⟨some 39, none, .load false false 1 (.t 38)⟩,
  ⟨some 40, none, .build [.str [], .nilslice, .bool false, .str [], .str [], .bool false, .str [], .str [], .bool false, .bool false, .str [], .str []] [(0, 1, (.t 39))]⟩,
  ⟨some 41, none, .bslice false 1 12 [.str [], .nilslice, .bool false, .str [], .str [], .bool false, .str [], .str [], .bool false, .bool false, .str [], .str []] [(0, 12, (.t 40))]⟩,
  ⟨some 42, none, .append true 12 168 (.t 35) (.t 41)⟩,
  ⟨some 43, none, .fieldAddr 2 (.t 4)⟩,
  ⟨none, none, .store 1 (.t 43) (.t 42)⟩] = true := ⟨by kernel_rfl, by kernel_rfl⟩
def gantkeep4_Small_r12 : List LOper := [
  ⟨some 44, none, .bin .add (.t 31) (.c (.int .i64 1))⟩,
  ⟨some 31, none, .mv false (.t 44)⟩]
def gantkeep4_Small_b1 : LCode := (.seq (.ops gantkeep4_Small_r9) (.seq (.cond (.t 32) .skip (.exit 2)) (.seq (.block 3 (.seq (.ops gantkeep4_Small_r10) (.dops [0, 1, 0, 0, 12, 28, 60, 124, 255, 511, 1023] gantkeep4_Small_r11))) (.ops gantkeep4_Small_r12))))
def gantkeep4_Small_r13 : List LOper := [
  ⟨some 45, none, .mv false (.t 3)⟩,
  ⟨some 46, none, .call false 41 [(.t 45), (.c (.int .i64 2))]⟩,
  ⟨some 47, none, .bin .add (.c (.int .i64 1)) (.t 46)⟩,
  ⟨some 48, none, .mv false (.c (.int .i64 0))⟩]
def gantkeep4_Small_r14 : List LOper := [
  ⟨some 49, none, .bin .lss (.t 48) (.t 47)⟩]
def gantkeep4_Small_r15 : List LOper := [
  ⟨some 50, none, .mv false (.t 48)⟩,
  ⟨some 7, none, .mv false (.t 50)⟩]
def gantkeep4_Small_r16 : List LOper := [
  ⟨some 51, none, .fieldAddr 3 (.t 4)⟩,
  ⟨some 52, none, .load true false 1 (.t 51)⟩,
  ⟨some 53, none, .bslice false 2 1 [.str [], .str []] [(0, 1, (.c (.str [104, 101, 114, 101]))), (1, 1, (.c (.str [116, 104, 101, 114, 101])))]⟩,
  ⟨some 54, none, .mv false (.t 7)⟩,
  ⟨some 55, none, .indexAddr 1 (.t 53) (.t 54)⟩,
  ⟨some 56, none, .load false false 1 (.t 55)⟩,
  ⟨some 57, none, .call true 42 [(.c (.int .i64 1)), (.c (.int .i64 4))]⟩,
  ⟨some 58, none, .build [.str [], .bool false, .str [], .str [], .bool false, .str [], .str [], .bool false, .bool false, .str [], .str [], .bool false, .str [], .str []] [(0, 1, (.t 56)), (11, 3, (.t 57))]⟩,
  ⟨some 59, none, .bslice false 1 14 [.str [], .bool false, .str [], .str [], .bool false, .str [], .str [], .bool false, .bool false, .str [], .str [], .bool false, .str [], .str []] [(0, 14, (.t 58))]⟩,
  ⟨some 60, none, .append true 14 184 (.t 52) (.t 59)⟩,
  ⟨some 61, none, .fieldAddr 3 (.t 4)⟩,
  ⟨none, none, .store 1 (.t 61) (.t 60)⟩]
theorem gantkeep4_Small_r16_d : drawC [0, 1, 0, 0, 12, 28, 0, 124, 252, 511, 1023, 2047] [
  ⟨some 51, none, .fieldAddr 3 (.t 4)⟩,
  ⟨some 52, none, .load true false 1 (.t 51)⟩,
  ⟨some 53, none, .bslice false 2 1 [.str [], .str []] [(0, 1, (.c (.str [104, 101, 114, 101]))), (1, 1, (.c (.str [116, 104, 101, 114, 101])))]⟩,
  ⟨some 54, none, .mv false (.t 7)⟩,
  ⟨some 55, none, .indexAddr 1 (.t 53) (.t 54)⟩,
  ⟨some 56, none, .load false false 1 (.t 55)⟩,
  ⟨some 57, none, .call true 42 [(.c (.int .i64 1)), (.c (.int .i64 4))]⟩,
  ⟨some 58, none, .build [.str [], .bool false, .str [], .str [], .bool false, .str [], .str [], .bool false, .bool false, .str [], .str [], .bool false, .str [], .str []] [(0, 1, (.t 56)), (11, 3, (.t 57))]⟩,
  ⟨some 59, none, .bslice false 1 14 [.str [], .bool false, .str [], .str [], .bool false, .str [], .str [], .bool false, .bool false, .str [], .str [], .bool false, .str [], .str []] [(0, 14, (.t 58))]⟩,
  ⟨some 60, none, .append true 14 184 (.t 52) (.t 59)⟩,
  ⟨some 61, none, .fieldAddr 3 (.t 4)⟩,
  ⟨none, none, .store 1 (.t 61) (.t 60)⟩] = false ∧ drawW [0, 1, 0, 0, 12, 28, 0, 124, 252, 511, 1023, 2047] [
  ⟨some 51, none, .fieldAddr 3 (.t 4)⟩,
  ⟨some 52, none, .load true false 1 (.t 51)⟩,
  ⟨some 53, none, .bslice false 2 1 [.str [], .str []] [(0, 1, (.c (.str [104, 101, 114, 101]))), (1, 1, (.c (.str [116, 104, 101, 114, 101])))]⟩,
  ⟨some 54, none, .mv false (.t 7)⟩,
  ⟨some 55, none, .indexAddr 1 (.t 53) (.t 54)⟩,
  ⟨some 56, none, .load false false 1 (.t 55)⟩,
  ⟨some 57, none, .call true 42 [(.c (.int .i64 1)), (.c (.int .i64 4))]⟩,
  ⟨some 58, none, .build [.str [], .bool false, .str [], .str [], .bool false, .str [], .str [], .bool false, .bool false, .str [], .str [], .bool false, .str [], .str []] [(0, 1, (.t 56)), (11, 3, (.t 57))]⟩,
  ⟨some 59, none, .bslice false 1 14 [.str [], .bool false, .str [], .str [], .bool false, .str [], .str [], .bool false, .bool false, .str [], .str [], .bool false, .str [], .str []] [(0, 14, (.t 58))]⟩,
  ⟨some 60, none, .append true 14 184 (.t 52) (.t 59)⟩,
  ⟨some 61, none, .fieldAddr 3 (.t 4)⟩,
  ⟨none, none, .store 1 (.t 61) (.t 60)⟩] = true := ⟨by kernel_rfl, by kernel_rfl⟩
def gantkeep4_Small_r17 : List LOper := [
  ⟨some 62, none, .bin .add (.t 48) (.c (.int .i64 1))⟩,
  ⟨some 48, none, .mv false (.t 62)⟩]
def gantkeep4_Small_b2 : LCode := (.seq (.ops gantkeep4_Small_r14) (.seq (.cond (.t 49) .skip (.exit 4)) (.seq (.block 5 (.seq (.ops gantkeep4_Small_r15) (.dops [0, 1, 0, 0, 12, 28, 0, 124, 252, 511, 1023, 2047] gantkeep4_Small_r16))) (.ops gantkeep4_Small_r17))))
def gantkeep4_Small_r18 : List LOper := [
  ⟨some 63, none, .load false true 8 (.t 4)⟩,
  ⟨none, none, .store 8 (.t 2) (.t 63)⟩]
def gantkeep4_Small_f : LFunc := ⟨64, 1, [.cell 2 true 8], (.seq (.ops gantkeep4_Small_r0) (.seq (.ops gantkeep4_Small_r1) (.seq (.ops gantkeep4_Small_r2) (.seq (.seq (.ops gantkeep4_Small_r3) (.block 0 (.loop [2, 3, 4, 13, 14] gantkeep4_Small_b0))) (.seq (.seq (.ops gantkeep4_Small_r8) (.block 2 (.loop [2, 3, 4, 30, 31] gantkeep4_Small_b1))) (.seq (.seq (.ops gantkeep4_Small_r13) (.block 4 (.loop [2, 4, 47, 48] gantkeep4_Small_b2))) (.seq (.ops gantkeep4_Small_r18) .ret)))))))⟩
def gantkeep4_Small_v : VFunc := ⟨gantkeep4_Small_f, true, false, false⟩
theorem gantkeep4_Small_ok : preFunc Try.prog ⟨[18, 35, 52], [], [57]⟩ Try.f10 [[2, 3, 4, 13, 14], [2, 3, 4, 30, 31], [2, 4, 47, 48]] = some gantkeep4_Small_f := by kernel_rfl

-- gantry/act.Holds
def act_Holds_r0 : List LOper := [
  ⟨some 2, none, .box (.t 0)⟩,
  ⟨some 4, none, .mv false (.c (.int .i64 0))⟩]
def act_Holds_r1 : List LOper := [
  ⟨some 5, none, .mv false (.t 1)⟩,
  ⟨some 6, none, .bin .lss (.t 5) (.c (.int .i64 0))⟩,
  ⟨some 7, none, .mv false (.t 6)⟩,
  ⟨some 8, some (7, false), .mv false (.t 1)⟩,
  ⟨some 9, some (7, false), .fieldAddr 3 (.t 2)⟩,
  ⟨some 10, some (7, false), .load false false 1 (.t 9)⟩,
  ⟨some 11, some (7, false), .lenL (.t 10)⟩,
  ⟨some 12, some (7, false), .bin .geq (.t 8) (.t 11)⟩,
  ⟨some 13, none, .pick (.t 7) (.c (.bool true)) (.t 12)⟩]
def act_Holds_r2 : List LOper := [
  ⟨some 4, none, .mv false (.c (.int .i64 (-1)))⟩]
def act_Holds_r3 : List LOper := [
  ⟨some 14, none, .fieldAddr 1 (.t 2)⟩,
  ⟨some 15, none, .load false false 1 (.t 14)⟩,
  ⟨some 16, none, .mv false (.t 1)⟩,
  ⟨some 17, none, .call true 44 [(.t 16)]⟩,
  ⟨some 18, none, .call true 43 [(.t 15), (.t 17)]⟩,
  ⟨some 4, none, .mv false (.t 18)⟩]
theorem act_Holds_r3_d : drawC [0, 1, 0, 4, 15, 31] [
  ⟨some 14, none, .fieldAddr 1 (.t 2)⟩,
  ⟨some 15, none, .load false false 1 (.t 14)⟩,
  ⟨some 16, none, .mv false (.t 1)⟩,
  ⟨some 17, none, .call true 44 [(.t 16)]⟩,
  ⟨some 18, none, .call true 43 [(.t 15), (.t 17)]⟩,
  ⟨some 4, none, .mv false (.t 18)⟩] = true := by kernel_rfl
def act_Holds_f : LFunc := ⟨19, 2, [.tmp 4], (.seq (.ops act_Holds_r0) (.seq (.seq (.ops act_Holds_r1) (.cond (.t 13) (.seq (.ops act_Holds_r2) .ret) .skip)) (.seq (.dops [0, 1, 0, 4, 15, 31] act_Holds_r3) .ret)))⟩
def act_Holds_v : VFunc := ⟨act_Holds_f, true, false, false⟩
theorem act_Holds_ok : preFunc Try.prog ⟨[], [], [17, 18]⟩ Try.f11 [] = some act_Holds_f := by kernel_rfl

-- gantry/act.Copy
def act_Copy_r0 : List LOper := [
  ⟨some 1, none, .box (.t 0)⟩,
  ⟨some 2, none, .alloc [.int .i64 0, .nilslice, .nilslice, .nilslice]⟩]
def act_Copy_r1 : List LOper := [
  ⟨some 3, none, .fieldAddr 0 (.t 1)⟩,
  ⟨some 4, none, .load false false 1 (.t 3)⟩,
  ⟨some 5, none, .fieldAddr 1 (.t 1)⟩,
  ⟨some 6, none, .load false false 1 (.t 5)⟩,
  ⟨some 7, none, .call false 47 [(.t 6)]⟩,
  ⟨some 8, none, .fieldAddr 2 (.t 1)⟩,
  ⟨some 9, none, .load false false 1 (.t 8)⟩,
  ⟨some 10, none, .call false 48 [(.t 9)]⟩,
  ⟨some 11, none, .fieldAddr 3 (.t 1)⟩,
  ⟨some 12, none, .load false false 1 (.t 11)⟩,
  ⟨some 13, none, .call false 47 [(.t 12)]⟩,
  ⟨some 14, none, .build [.int .i64 0, .nilslice, .nilslice, .nilslice] [(0, 1, (.t 4)), (1, 1, (.t 7)), (2, 1, (.t 10)), (3, 1, (.t 13))]⟩,
  ⟨none, none, .store 4 (.t 2) (.t 14)⟩]
theorem act_Copy_r1_d : drawC [0, 1, 0, 4, 12, 0, 32, 124, 0, 256, 1020, 2047, 4095] [
  ⟨some 3, none, .fieldAddr 0 (.t 1)⟩,
  ⟨some 4, none, .load false false 1 (.t 3)⟩,
  ⟨some 5, none, .fieldAddr 1 (.t 1)⟩,
  ⟨some 6, none, .load false false 1 (.t 5)⟩,
  ⟨some 7, none, .call false 47 [(.t 6)]⟩,
  ⟨some 8, none, .fieldAddr 2 (.t 1)⟩,
  ⟨some 9, none, .load false false 1 (.t 8)⟩,
  ⟨some 10, none, .call false 48 [(.t 9)]⟩,
  ⟨some 11, none, .fieldAddr 3 (.t 1)⟩,
  ⟨some 12, none, .load false false 1 (.t 11)⟩,
  ⟨some 13, none, .call false 47 [(.t 12)]⟩,
  ⟨some 14, none, .build [.int .i64 0, .nilslice, .nilslice, .nilslice] [(0, 1, (.t 4)), (1, 1, (.t 7)), (2, 1, (.t 10)), (3, 1, (.t 13))]⟩,
  ⟨none, none, .store 4 (.t 2) (.t 14)⟩] = false ∧ drawW [0, 1, 0, 4, 12, 0, 32, 124, 0, 256, 1020, 2047, 4095] [
  ⟨some 3, none, .fieldAddr 0 (.t 1)⟩,
  ⟨some 4, none, .load false false 1 (.t 3)⟩,
  ⟨some 5, none, .fieldAddr 1 (.t 1)⟩,
  ⟨some 6, none, .load false false 1 (.t 5)⟩,
  ⟨some 7, none, .call false 47 [(.t 6)]⟩,
  ⟨some 8, none, .fieldAddr 2 (.t 1)⟩,
  ⟨some 9, none, .load false false 1 (.t 8)⟩,
  ⟨some 10, none, .call false 48 [(.t 9)]⟩,
  ⟨some 11, none, .fieldAddr 3 (.t 1)⟩,
  ⟨some 12, none, .load false false 1 (.t 11)⟩,
  ⟨some 13, none, .call false 47 [(.t 12)]⟩,
  ⟨some 14, none, .build [.int .i64 0, .nilslice, .nilslice, .nilslice] [(0, 1, (.t 4)), (1, 1, (.t 7)), (2, 1, (.t 10)), (3, 1, (.t 13))]⟩,
  ⟨none, none, .store 4 (.t 2) (.t 14)⟩] = true := ⟨by kernel_rfl, by kernel_rfl⟩
def act_Copy_f : LFunc := ⟨15, 1, [.cell 2 true 4], (.seq (.ops act_Copy_r0) (.seq (.dops [0, 1, 0, 4, 12, 0, 32, 124, 0, 256, 1020, 2047, 4095] act_Copy_r1) .ret))⟩
def act_Copy_v : VFunc := ⟨act_Copy_f, false, false, true⟩
theorem act_Copy_ok : preFunc Try.prog ⟨[], [], []⟩ Try.f14 [] = some act_Copy_f := by kernel_rfl

-- gantry/act.Same
def act_Same_r0 : List LOper := [
  ⟨some 2, none, .box (.t 0)⟩,
  ⟨some 3, none, .box (.t 1)⟩,
  ⟨some 4, none, .mv false (.c (.bool false))⟩]
def act_Same_r1 : List LOper := [
  ⟨some 5, none, .fieldAddr 0 (.t 2)⟩,
  ⟨some 6, none, .load false false 1 (.t 5)⟩,
  ⟨some 7, none, .fieldAddr 0 (.t 3)⟩,
  ⟨some 8, none, .load false false 1 (.t 7)⟩,
  ⟨some 9, none, .bin .eql (.t 6) (.t 8)⟩,
  ⟨some 10, none, .mv false (.t 9)⟩,
  ⟨some 11, some (10, true), .fieldAddr 1 (.t 2)⟩,
  ⟨some 12, some (10, true), .load false false 1 (.t 11)⟩,
  ⟨some 13, some (10, true), .fieldAddr 1 (.t 3)⟩,
  ⟨some 14, some (10, true), .load false false 1 (.t 13)⟩,
  ⟨some 15, some (10, true), .call false 49 [(.t 12), (.t 14)]⟩,
  ⟨some 16, none, .pick (.t 10) (.t 15) (.c (.bool false))⟩,
  ⟨some 17, none, .mv false (.t 16)⟩,
  ⟨some 18, some (17, true), .fieldAddr 2 (.t 2)⟩,
  ⟨some 19, some (17, true), .load false false 1 (.t 18)⟩,
  ⟨some 20, some (17, true), .fieldAddr 2 (.t 3)⟩,
  ⟨some 21, some (17, true), .load false false 1 (.t 20)⟩,
  ⟨some 22, some (17, true), .call false 50 [(.t 19), (.t 21)]⟩,
  ⟨some 23, none, .pick (.t 17) (.t 22) (.c (.bool false))⟩,
  ⟨some 24, none, .mv false (.t 23)⟩,
  ⟨some 25, some (24, true), .fieldAddr 3 (.t 2)⟩,
  ⟨some 26, some (24, true), .load false false 1 (.t 25)⟩,
  ⟨some 27, some (24, true), .fieldAddr 3 (.t 3)⟩,
  ⟨some 28, some (24, true), .load false false 1 (.t 27)⟩,
  ⟨some 29, some (24, true), .call false 49 [(.t 26), (.t 28)]⟩,
  ⟨some 30, none, .pick (.t 24) (.t 29) (.c (.bool false))⟩,
  ⟨some 4, none, .mv false (.t 30)⟩]
def act_Same_f : LFunc := ⟨31, 2, [.tmp 4], (.seq (.ops act_Same_r0) (.seq (.ops act_Same_r1) .ret))⟩
def act_Same_v : VFunc := ⟨act_Same_f, true, false, false⟩
theorem act_Same_ok : preFunc Try.prog ⟨[], [], []⟩ Try.f15 [] = some act_Same_f := by kernel_rfl

-- gantry/gantkeep4.acted
def gantkeep4_acted_r0 : List LOper := [
  ⟨some 0, none, .mv false (.c (.bool false))⟩]
def gantkeep4_acted_r1 : List LOper := [
  ⟨some 4, none, .make false 12 168 [.str [], .bool false, .str [], .str [], .bool false, .str [], .str [], .bool false, .bool false, .str [], .str [], .nilslice] (.c (.int .i64 1)) (.c (.int .i64 1))⟩,
  ⟨some 5, none, .make false 12 168 [.str [], .nilslice, .bool false, .str [], .str [], .bool false, .str [], .str [], .bool false, .bool false, .str [], .str []] (.c (.int .i64 1)) (.c (.int .i64 1))⟩,
  ⟨some 6, none, .build [.nilslice, .nilslice, .nilslice, .nilslice, .nilslice, .bool false, .str [], .str []] [(0, 1, (.t 4)), (2, 1, (.t 5))]⟩,
  ⟨some 7, none, .call true 51 [(.t 6)]⟩,
  ⟨some 1, none, .alloc [.int .i64 0, .nilslice, .nilslice, .nilslice]⟩,
  ⟨none, none, .store 4 (.t 1) (.t 7)⟩]
theorem gantkeep4_acted_r1_d : drawC [0, 0, 3, 7, 0, 31] [
  ⟨some 4, none, .make false 12 168 [.str [], .bool false, .str [], .str [], .bool false, .str [], .str [], .bool false, .bool false, .str [], .str [], .nilslice] (.c (.int .i64 1)) (.c (.int .i64 1))⟩,
  ⟨some 5, none, .make false 12 168 [.str [], .nilslice, .bool false, .str [], .str [], .bool false, .str [], .str [], .bool false, .bool false, .str [], .str []] (.c (.int .i64 1)) (.c (.int .i64 1))⟩,
  ⟨some 6, none, .build [.nilslice, .nilslice, .nilslice, .nilslice, .nilslice, .bool false, .str [], .str []] [(0, 1, (.t 4)), (2, 1, (.t 5))]⟩,
  ⟨some 7, none, .call true 51 [(.t 6)]⟩,
  ⟨some 1, none, .alloc [.int .i64 0, .nilslice, .nilslice, .nilslice]⟩,
  ⟨none, none, .store 4 (.t 1) (.t 7)⟩] = true := by kernel_rfl
def gantkeep4_acted_r2 : List LOper := [
  ⟨some 9, none, .load false true 4 (.t 1)⟩,
  ⟨some 10, none, .build [.int .i64 0, .int .i64 0, .int .i64 0, .int .i64 0, .int .i64 0] [(2, 1, (.c (.int .i64 0))), (3, 1, (.c (.int .i64 (-1))))]⟩,
  ⟨some 11, none, .call false 38 [(.t 9), (.t 10)]⟩,
  ⟨some 8, none, .mv false (.t 11)⟩,
  ⟨some 12, none, .extract 0 (.t 8)⟩,
  ⟨some 13, none, .extract 1 (.t 8)⟩,
  ⟨some 2, none, .alloc [.int .i64 0, .nilslice, .nilslice, .nilslice]⟩,
  ⟨none, none, .store 4 (.t 2) (.t 12)⟩,
  ⟨some 3, none, .mv false (.t 13)⟩]
def gantkeep4_acted_r3 : List LOper := [
  ⟨some 14, none, .mv false (.t 3)⟩,
  ⟨some 15, none, .bin .eql (.t 14) (.c (.int .i64 0))⟩,
  ⟨some 16, none, .mv false (.t 15)⟩,
  ⟨some 17, some (16, true), .fieldAddr 3 (.t 2)⟩,
  ⟨some 18, some (16, true), .load false false 1 (.t 17)⟩,
  ⟨some 19, some (16, true), .lenL (.t 18)⟩,
  ⟨some 20, some (16, true), .bin .eql (.t 19) (.c (.int .i64 1))⟩,
  ⟨some 21, none, .pick (.t 16) (.t 20) (.c (.bool false))⟩,
  ⟨some 22, none, .mv false (.t 21)⟩,
  ⟨some 23, some (22, true), .fieldAddr 3 (.t 2)⟩,
  ⟨some 24, some (22, true), .load false false 1 (.t 23)⟩,
  ⟨some 25, some (22, true), .indexAddr 1 (.t 24) (.c (.int .i64 0))⟩,
  ⟨some 26, some (22, true), .load false false 1 (.t 25)⟩,
  ⟨some 27, some (22, true), .bin .eql (.t 26) (.c (.int .i64 8))⟩,
  ⟨some 28, none, .pick (.t 22) (.t 27) (.c (.bool false))⟩,
  ⟨some 0, none, .mv false (.t 28)⟩]
def gantkeep4_acted_f : LFunc := ⟨29, 0, [.tmp 0], (.seq (.ops gantkeep4_acted_r0) (.seq (.dops [0, 0, 3, 7, 0, 31] gantkeep4_acted_r1) (.seq (.ops gantkeep4_acted_r2) (.seq (.ops gantkeep4_acted_r3) .ret))))⟩
def gantkeep4_acted_v : VFunc := ⟨gantkeep4_acted_f, true, false, false⟩
theorem gantkeep4_acted_ok : preFunc Try.prog ⟨[], [], [4, 5, 7]⟩ Try.f16 [] = some gantkeep4_acted_f := by kernel_rfl

-- gantry/fact.Of
def fact_Of_r0 : List LOper := [
  ⟨some 2, none, .mv false (.c (.nilslice))⟩]
def fact_Of_r1 : List LOper := [
  ⟨some 3, none, .mv false (.c (.nilslice))⟩]
def fact_Of_r2 : List LOper := [
  ⟨some 6, none, .mv false (.t 0)⟩,
  ⟨some 7, none, .lenL (.t 6)⟩,
  ⟨some 8, none, .mv false (.c (.int .i64 0))⟩]
def fact_Of_r3 : List LOper := [
  ⟨some 9, none, .bin .lss (.t 8) (.t 7)⟩]
def fact_Of_r4 : List LOper := [
  ⟨some 10, none, .indexAddr 3 (.t 6) (.t 8)⟩,
  ⟨some 11, none, .load false true 3 (.t 10)⟩,
  ⟨some 5, none, .alloc [.int .i64 0, .int .i64 0, .int .i64 0]⟩,
  ⟨none, none, .store 3 (.t 5) (.t 11)⟩]
def fact_Of_r5 : List LOper := [
  ⟨some 12, none, .load false true 3 (.t 5)⟩,
  ⟨some 13, none, .call false 52 [(.t 12)]⟩]
def fact_Of_r6 : List LOper := [
  ⟨some 14, none, .mv false (.t 3)⟩,
  ⟨some 15, none, .load false true 3 (.t 5)⟩,
  ⟨some 16, none, .bslice false 1 3 [.int .i64 0, .int .i64 0, .int .i64 0] [(0, 3, (.t 15))]⟩,
  ⟨some 17, none, .append false 3 24 (.t 14) (.t 16)⟩,
  ⟨some 3, none, .mv false (.t 17)⟩]
def fact_Of_r7 : List LOper := [
  ⟨some 18, none, .bin .add (.t 8) (.c (.int .i64 1))⟩,
  ⟨some 8, none, .mv false (.t 18)⟩]
def fact_Of_b0 : LCode := (.seq (.ops fact_Of_r3) (.seq (.cond (.t 9) .skip (.exit 0)) (.seq (.block 1 (.seq (.ops fact_Of_r4) (.seq (.ops fact_Of_r5) (.cond (.t 13) (.ops fact_Of_r6) .skip)))) (.ops fact_Of_r7))))
def fact_Of_r8 : List LOper := [
  ⟨some 19, none, .mv false (.t 3)⟩,
  ⟨some 20, none, .call false 53 [(.t 19), (.c (.func 54 []))]⟩]
def fact_Of_r9 : List LOper := [
  ⟨some 21, none, .mv false (.t 3)⟩,
  ⟨some 22, none, .call false 55 [(.t 21)]⟩,
  ⟨some 2, none, .mv false (.t 22)⟩]
def fact_Of_f : LFunc := ⟨23, 1, [.tmp 2], (.seq (.ops fact_Of_r0) (.seq (.ops fact_Of_r1) (.seq (.seq (.ops fact_Of_r2) (.block 0 (.loop [3, 6, 7, 8] fact_Of_b0))) (.seq (.ops fact_Of_r8) (.seq (.ops fact_Of_r9) .ret)))))⟩
def fact_Of_v : VFunc := ⟨fact_Of_f, true, false, false⟩
theorem fact_Of_ok : preFunc Try.prog ⟨[], [17], []⟩ Try.f17 [[3, 6, 7, 8]] = some fact_Of_f := by kernel_rfl

-- gantry/gantkeep4.Facts
def gantkeep4_Facts_r0 : List LOper := [
  ⟨some 2, none, .mv false (.c (.nilslice))⟩]
def gantkeep4_Facts_r1 : List LOper := [
  ⟨some 6, none, .mv false (.t 0)⟩,
  ⟨some 7, none, .build [.nilslice] [(0, 1, (.t 6))]⟩,
  ⟨some 8, none, .box (.t 7)⟩,
  ⟨some 3, none, .mv false (.t 8)⟩]
def gantkeep4_Facts_r2 : List LOper := [
  ⟨some 4, none, .mv true (.c (.nilslice))⟩]
def gantkeep4_Facts_r3 : List LOper := [
  ⟨some 9, none, .mv false (.t 3)⟩,
  ⟨some 10, none, .call false 41 [(.t 9), (.c (.int .i64 9))]⟩,
  ⟨some 11, none, .mv false (.c (.int .i64 0))⟩]
def gantkeep4_Facts_r4 : List LOper := [
  ⟨some 12, none, .bin .lss (.t 11) (.t 10)⟩]
def gantkeep4_Facts_r5 : List LOper := [
  ⟨some 13, none, .mv false (.t 3)⟩,
  ⟨some 14, none, .call false 41 [(.t 13), (.c (.int .i64 6))]⟩,
  ⟨some 15, none, .bin .add (.c (.int .i64 1)) (.t 14)⟩,
  ⟨some 16, none, .build [.int .i64 0, .int .i64 0, .int .i64 0] [(0, 1, (.t 15))]⟩,
  ⟨some 5, none, .alloc [.int .i64 0, .int .i64 0, .int .i64 0]⟩,
  ⟨none, none, .store 3 (.t 5) (.t 16)⟩]
def gantkeep4_Facts_r6 : List LOper := [
  ⟨some 17, none, .fieldAddr 0 (.t 5)⟩,
  ⟨some 18, none, .load false false 1 (.t 17)⟩]
def gantkeep4_Facts_r7 : List LOper := [
  ⟨some 23, none, .bin .eql (.t 18) (.c (.int .i64 1))⟩,
  ⟨some 22, none, .mv false (.t 23)⟩]
def gantkeep4_Facts_r8 : List LOper := [
  ⟨some 24, none, .mv false (.t 3)⟩,
  ⟨some 25, none, .call false 41 [(.t 24), (.c (.int .i64 3))]⟩,
  ⟨some 26, none, .mv false (.t 3)⟩,
  ⟨some 27, none, .call false 41 [(.t 26), (.c (.int .i64 3))]⟩,
  ⟨some 28, none, .fieldAddr 1 (.t 5)⟩,
  ⟨none, none, .store 1 (.t 28) (.t 25)⟩,
  ⟨some 29, none, .fieldAddr 2 (.t 5)⟩,
  ⟨none, none, .store 1 (.t 29) (.t 27)⟩]
def gantkeep4_Facts_r9 : List LOper := [
  ⟨some 31, none, .bin .eql (.t 18) (.c (.int .i64 2))⟩,
  ⟨some 30, none, .mv false (.t 31)⟩]
def gantkeep4_Facts_r10 : List LOper := [
  ⟨some 32, none, .mv false (.t 3)⟩,
  ⟨some 33, none, .call false 41 [(.t 32), (.c (.int .i64 3))]⟩,
  ⟨some 34, none, .mv false (.t 3)⟩,
  ⟨some 35, none, .call false 41 [(.t 34), (.c (.int .i64 3))]⟩,
  ⟨some 36, none, .fieldAddr 1 (.t 5)⟩,
  ⟨none, none, .store 1 (.t 36) (.t 33)⟩,
  ⟨some 37, none, .fieldAddr 2 (.t 5)⟩,
  ⟨none, none, .store 1 (.t 37) (.t 35)⟩]
def gantkeep4_Facts_r11 : List LOper := [
  ⟨some 39, none, .bin .eql (.t 18) (.c (.int .i64 6))⟩,
  ⟨some 38, none, .mv false (.t 39)⟩]
def gantkeep4_Facts_r12 : List LOper := [
  ⟨some 40, none, .mv false (.t 3)⟩,
  ⟨some 41, none, .call false 41 [(.t 40), (.c (.int .i64 3))]⟩,
  ⟨some 42, none, .mv false (.t 3)⟩,
  ⟨some 43, none, .call false 41 [(.t 42), (.c (.int .i64 10))]⟩,
  ⟨some 44, none, .fieldAddr 1 (.t 5)⟩,
  ⟨none, none, .store 1 (.t 44) (.t 41)⟩,
  ⟨some 45, none, .fieldAddr 2 (.t 5)⟩,
  ⟨none, none, .store 1 (.t 45) (.t 43)⟩]
def gantkeep4_Facts_r13 : List LOper := [
  ⟨some 19, none, .mv false (.t 3)⟩,
  ⟨some 20, none, .call false 41 [(.t 19), (.c (.int .i64 4))]⟩,
  ⟨some 21, none, .fieldAddr 1 (.t 5)⟩,
  ⟨none, none, .store 1 (.t 21) (.t 20)⟩]
def gantkeep4_Facts_r14 : List LOper := [
  ⟨some 46, none, .mv true (.t 4)⟩,
  ⟨some 47, none, .load false true 3 (.t 5)⟩,
  ⟨some 48, none, .bslice false 1 3 [.int .i64 0, .int .i64 0, .int .i64 0] [(0, 3, (.t 47))]⟩,
  ⟨some 49, none, .append true 3 24 (.t 46) (.t 48)⟩,
  ⟨some 4, none, .mv true (.t 49)⟩]
def gantkeep4_Facts_r15 : List LOper := [
  ⟨some 50, none, .bin .add (.t 11) (.c (.int .i64 1))⟩,
  ⟨some 11, none, .mv false (.t 50)⟩]
def gantkeep4_Facts_b0 : LCode := (.seq (.ops gantkeep4_Facts_r4) (.seq (.cond (.t 12) .skip (.exit 0)) (.seq (.block 1 (.seq (.ops gantkeep4_Facts_r5) (.seq (.seq (.ops gantkeep4_Facts_r6) (.block 2 (.seq (.ops gantkeep4_Facts_r7) (.cond (.t 22) (.ops gantkeep4_Facts_r8) (.seq (.ops gantkeep4_Facts_r9) (.cond (.t 30) (.ops gantkeep4_Facts_r10) (.seq (.ops gantkeep4_Facts_r11) (.cond (.t 38) (.ops gantkeep4_Facts_r12) (.ops gantkeep4_Facts_r13))))))))) (.ops gantkeep4_Facts_r14)))) (.ops gantkeep4_Facts_r15))))
def gantkeep4_Facts_r16 : List LOper := [
  ⟨some 51, none, .mv false (.t 4)⟩,
  ⟨some 2, none, .mv false (.t 51)⟩]
def gantkeep4_Facts_f : LFunc := ⟨52, 1, [.tmp 2], (.seq (.ops gantkeep4_Facts_r0) (.seq (.ops gantkeep4_Facts_r1) (.seq (.ops gantkeep4_Facts_r2) (.seq (.seq (.ops gantkeep4_Facts_r3) (.block 0 (.loop [3, 4, 10, 11] gantkeep4_Facts_b0))) (.seq (.ops gantkeep4_Facts_r16) .ret)))))⟩
def gantkeep4_Facts_v : VFunc := ⟨gantkeep4_Facts_f, true, false, false⟩
theorem gantkeep4_Facts_ok : preFunc Try.prog ⟨[4, 46, 49], [], []⟩ Try.f18 [[3, 4, 10, 11]] = some gantkeep4_Facts_f := by kernel_rfl

-- gantry/fact.Clash
def fact_Clash_r0 : List LOper := [
  ⟨some 2, none, .box (.t 0)⟩,
  ⟨some 3, none, .box (.t 1)⟩,
  ⟨some 4, none, .mv false (.c (.bool false))⟩]
def fact_Clash_r1 : List LOper := [
  ⟨some 5, none, .load false true 3 (.t 2)⟩,
  ⟨some 6, none, .call false 52 [(.t 5)]⟩,
  ⟨some 7, none, .un .not (.t 6)⟩,
  ⟨some 8, none, .mv false (.t 7)⟩,
  ⟨some 9, some (8, false), .load false true 3 (.t 3)⟩,
  ⟨some 10, some (8, false), .call false 52 [(.t 9)]⟩,
  ⟨some 11, some (8, false), .un .not (.t 10)⟩,
  ⟨some 12, none, .pick (.t 8) (.c (.bool true)) (.t 11)⟩,
  ⟨some 13, none, .mv false (.t 12)⟩,
  ⟨some 14, some (13, false), .load false true 3 (.t 2)⟩,
  ⟨some 15, some (13, false), .load false true 3 (.t 3)⟩,
  ⟨some 16, some (13, false), .eqv false (.struct [.i, .i, .i]) (.t 14) (.t 15)⟩,
  ⟨some 17, none, .pick (.t 13) (.c (.bool true)) (.t 16)⟩]
def fact_Clash_r2 : List LOper := [
  ⟨some 4, none, .mv false (.c (.bool false))⟩]
def fact_Clash_r3 : List LOper := [
  ⟨some 18, none, .fieldAddr 0 (.t 2)⟩,
  ⟨some 19, none, .load false false 1 (.t 18)⟩,
  ⟨some 20, none, .fieldAddr 0 (.t 3)⟩,
  ⟨some 21, none, .load false false 1 (.t 20)⟩,
  ⟨some 22, none, .bin .gtr (.t 19) (.t 21)⟩]
def fact_Clash_r4 : List LOper := [
  ⟨some 23, none, .load false true 3 (.t 3)⟩,
  ⟨some 24, none, .load false true 3 (.t 2)⟩,
  ⟨none, none, .store 3 (.t 2) (.t 23)⟩,
  ⟨none, none, .store 3 (.t 3) (.t 24)⟩]
def fact_Clash_r5 : List LOper := [
  ⟨some 26, none, .fieldAddr 0 (.t 2)⟩,
  ⟨some 27, none, .load false false 1 (.t 26)⟩,
  ⟨some 28, none, .bin .eql (.t 27) (.c (.int .i64 1))⟩,
  ⟨some 29, none, .mv false (.t 28)⟩,
  ⟨some 30, some (29, true), .fieldAddr 0 (.t 3)⟩,
  ⟨some 31, some (29, true), .load false false 1 (.t 30)⟩,
  ⟨some 32, some (29, true), .bin .eql (.t 31) (.c (.int .i64 1))⟩,
  ⟨some 33, none, .pick (.t 29) (.t 32) (.c (.bool false))⟩,
  ⟨some 25, none, .mv false (.t 33)⟩]
def fact_Clash_r6 : List LOper := [
  ⟨some 34, none, .fieldAddr 0 (.t 2)⟩,
  ⟨some 35, none, .load false false 1 (.t 34)⟩,
  ⟨some 36, none, .bin .eql (.t 35) (.c (.int .i64 2))⟩,
  ⟨some 37, none, .mv false (.t 36)⟩,
  ⟨some 38, some (37, true), .fieldAddr 0 (.t 3)⟩,
  ⟨some 39, some (37, true), .load false false 1 (.t 38)⟩,
  ⟨some 40, some (37, true), .bin .eql (.t 39) (.c (.int .i64 2))⟩,
  ⟨some 41, none, .pick (.t 37) (.t 40) (.c (.bool false))⟩,
  ⟨some 25, none, .mv false (.t 41)⟩]
def fact_Clash_r7 : List LOper := [
  ⟨some 42, none, .fieldAddr 0 (.t 2)⟩,
  ⟨some 43, none, .load false false 1 (.t 42)⟩,
  ⟨some 44, none, .bin .eql (.t 43) (.c (.int .i64 6))⟩,
  ⟨some 45, none, .mv false (.t 44)⟩,
  ⟨some 46, some (45, true), .fieldAddr 0 (.t 3)⟩,
  ⟨some 47, some (45, true), .load false false 1 (.t 46)⟩,
  ⟨some 48, some (45, true), .bin .eql (.t 47) (.c (.int .i64 6))⟩,
  ⟨some 49, none, .pick (.t 45) (.t 48) (.c (.bool false))⟩,
  ⟨some 25, none, .mv false (.t 49)⟩]
def fact_Clash_r8 : List LOper := [
  ⟨some 50, none, .fieldAddr 1 (.t 2)⟩,
  ⟨some 51, none, .load false false 1 (.t 50)⟩,
  ⟨some 52, none, .fieldAddr 1 (.t 3)⟩,
  ⟨some 53, none, .load false false 1 (.t 52)⟩,
  ⟨some 54, none, .bin .eql (.t 51) (.t 53)⟩,
  ⟨some 55, none, .mv false (.t 54)⟩,
  ⟨some 56, some (55, false), .fieldAddr 2 (.t 2)⟩,
  ⟨some 57, some (55, false), .load false false 1 (.t 56)⟩,
  ⟨some 58, some (55, false), .fieldAddr 2 (.t 3)⟩,
  ⟨some 59, some (55, false), .load false false 1 (.t 58)⟩,
  ⟨some 60, some (55, false), .bin .eql (.t 57) (.t 59)⟩,
  ⟨some 61, none, .pick (.t 55) (.c (.bool true)) (.t 60)⟩,
  ⟨some 4, none, .mv false (.t 61)⟩]
def fact_Clash_r9 : List LOper := [
  ⟨some 63, none, .fieldAddr 0 (.t 2)⟩,
  ⟨some 64, none, .load false false 1 (.t 63)⟩,
  ⟨some 65, none, .bin .eql (.t 64) (.c (.int .i64 1))⟩,
  ⟨some 66, none, .mv false (.t 65)⟩,
  ⟨some 67, some (66, true), .fieldAddr 0 (.t 3)⟩,
  ⟨some 68, some (66, true), .load false false 1 (.t 67)⟩,
  ⟨some 69, some (66, true), .bin .eql (.t 68) (.c (.int .i64 2))⟩,
  ⟨some 70, none, .pick (.t 66) (.t 69) (.c (.bool false))⟩,
  ⟨some 62, none, .mv false (.t 70)⟩]
def fact_Clash_r10 : List LOper := [
  ⟨some 71, none, .fieldAddr 1 (.t 2)⟩,
  ⟨some 72, none, .load false false 1 (.t 71)⟩,
  ⟨some 73, none, .fieldAddr 2 (.t 3)⟩,
  ⟨some 74, none, .load false false 1 (.t 73)⟩,
  ⟨some 75, none, .bin .eql (.t 72) (.t 74)⟩,
  ⟨some 4, none, .mv false (.t 75)⟩]
def fact_Clash_r11 : List LOper := [
  ⟨some 77, none, .fieldAddr 0 (.t 2)⟩,
  ⟨some 78, none, .load false false 1 (.t 77)⟩,
  ⟨some 79, none, .bin .eql (.t 78) (.c (.int .i64 1))⟩,
  ⟨some 80, none, .mv false (.t 79)⟩,
  ⟨some 81, some (80, true), .fieldAddr 0 (.t 3)⟩,
  ⟨some 82, some (80, true), .load false false 1 (.t 81)⟩,
  ⟨some 83, some (80, true), .bin .eql (.t 82) (.c (.int .i64 4))⟩,
  ⟨some 84, none, .pick (.t 80) (.t 83) (.c (.bool false))⟩,
  ⟨some 76, none, .mv false (.t 84)⟩]
def fact_Clash_r12 : List LOper := [
  ⟨some 85, none, .fieldAddr 2 (.t 2)⟩,
  ⟨some 86, none, .load false false 1 (.t 85)⟩,
  ⟨some 87, none, .fieldAddr 1 (.t 3)⟩,
  ⟨some 88, none, .load false false 1 (.t 87)⟩,
  ⟨some 89, none, .bin .eql (.t 86) (.t 88)⟩,
  ⟨some 4, none, .mv false (.t 89)⟩]
def fact_Clash_r13 : List LOper := [
  ⟨some 91, none, .fieldAddr 0 (.t 2)⟩,
  ⟨some 92, none, .load false false 1 (.t 91)⟩,
  ⟨some 93, none, .bin .eql (.t 92) (.c (.int .i64 2))⟩,
  ⟨some 94, none, .mv false (.t 93)⟩,
  ⟨some 95, some (94, true), .fieldAddr 0 (.t 3)⟩,
  ⟨some 96, some (94, true), .load false false 1 (.t 95)⟩,
  ⟨some 97, some (94, true), .bin .eql (.t 96) (.c (.int .i64 3))⟩,
  ⟨some 98, none, .pick (.t 94) (.t 97) (.c (.bool false))⟩,
  ⟨some 90, none, .mv false (.t 98)⟩]
def fact_Clash_r14 : List LOper := [
  ⟨some 99, none, .fieldAddr 1 (.t 2)⟩,
  ⟨some 100, none, .load false false 1 (.t 99)⟩,
  ⟨some 101, none, .fieldAddr 1 (.t 3)⟩,
  ⟨some 102, none, .load false false 1 (.t 101)⟩,
  ⟨some 103, none, .bin .eql (.t 100) (.t 102)⟩,
  ⟨some 4, none, .mv false (.t 103)⟩]
def fact_Clash_r15 : List LOper := [
  ⟨some 4, none, .mv false (.c (.bool false))⟩]
def fact_Clash_f : LFunc := ⟨104, 2, [.tmp 4], (.seq (.ops fact_Clash_r0) (.seq (.seq (.ops fact_Clash_r1) (.cond (.t 17) (.seq (.ops fact_Clash_r2) .ret) .skip)) (.seq (.seq (.ops fact_Clash_r3) (.cond (.t 22) (.ops fact_Clash_r4) .skip)) (.seq (.block 0 (.seq (.seq (.ops fact_Clash_r5) (.cond (.t 25) .skip (.seq (.ops fact_Clash_r6) (.cond (.t 25) .skip (.ops fact_Clash_r7))))) (.cond (.t 25) (.seq (.ops fact_Clash_r8) .ret) (.seq (.ops fact_Clash_r9) (.cond (.t 62) (.seq (.ops fact_Clash_r10) .ret) (.seq (.ops fact_Clash_r11) (.cond (.t 76) (.seq (.ops fact_Clash_r12) .ret) (.seq (.ops fact_Clash_r13) (.cond (.t 90) (.seq (.ops fact_Clash_r14) .ret) .skip))))))))) (.seq (.ops fact_Clash_r15) .ret)))))⟩
def fact_Clash_v : VFunc := ⟨fact_Clash_f, true, false, false⟩
theorem fact_Clash_ok : preFunc Try.prog ⟨[], [], []⟩ Try.f19 [] = some fact_Clash_f := by kernel_rfl

-- gantry/gantkeep4.facted
def gantkeep4_facted_r0 : List LOper := [
  ⟨some 0, none, .mv false (.c (.bool false))⟩]
def gantkeep4_facted_r1 : List LOper := [
  ⟨some 1, none, .build [.int .i64 0, .int .i64 0, .int .i64 0] [(0, 1, (.c (.int .i64 3)))]⟩,
  ⟨some 2, none, .build [.int .i64 0, .int .i64 0, .int .i64 0] [(0, 1, (.c (.int .i64 2))), (2, 1, (.c (.int .i64 1)))]⟩,
  ⟨some 3, none, .call false 19 [(.t 1), (.t 2)]⟩,
  ⟨some 4, none, .mv false (.t 3)⟩,
  ⟨some 5, some (4, true), .build [.int .i64 0, .int .i64 0, .int .i64 0] [(0, 1, (.c (.int .i64 5)))]⟩,
  ⟨some 6, some (4, true), .bslice false 1 3 [.int .i64 0, .int .i64 0, .int .i64 0] [(0, 3, (.t 5))]⟩,
  ⟨some 7, some (4, true), .build [.int .i64 0, .int .i64 0, .int .i64 0] [(0, 1, (.c (.int .i64 5)))]⟩,
  ⟨some 8, some (4, true), .call false 56 [(.t 6), (.t 7)]⟩,
  ⟨some 9, none, .pick (.t 4) (.t 8) (.c (.bool false))⟩,
  ⟨some 0, none, .mv false (.t 9)⟩]
def gantkeep4_facted_f : LFunc := ⟨10, 0, [.tmp 0], (.seq (.ops gantkeep4_facted_r0) (.seq (.ops gantkeep4_facted_r1) .ret))⟩
def gantkeep4_facted_v : VFunc := ⟨gantkeep4_facted_f, true, false, false⟩
theorem gantkeep4_facted_ok : preFunc Try.prog ⟨[], [], []⟩ Try.f20 [] = some gantkeep4_facted_f := by kernel_rfl

-- gantry/fact.Sound
def fact_Sound_r0 : List LOper := [
  ⟨some 2, none, .mv false (.c (.bool false))⟩]
def fact_Sound_r1 : List LOper := [
  ⟨some 7, none, .mv false (.t 0)⟩,
  ⟨some 8, none, .lenL (.t 7)⟩,
  ⟨some 9, none, .mv false (.c (.int .i64 0))⟩]
def fact_Sound_r2 : List LOper := [
  ⟨some 10, none, .bin .lss (.t 9) (.t 8)⟩]
def fact_Sound_r3 : List LOper := [
  ⟨some 11, none, .mv false (.t 9)⟩,
  ⟨some 12, none, .indexAddr 3 (.t 7) (.t 9)⟩,
  ⟨some 13, none, .load false true 3 (.t 12)⟩,
  ⟨some 4, none, .alloc [.int .i64 0, .int .i64 0, .int .i64 0]⟩,
  ⟨some 3, none, .mv false (.t 11)⟩,
  ⟨none, none, .store 3 (.t 4) (.t 13)⟩]
def fact_Sound_r4 : List LOper := [
  ⟨some 14, none, .mv false (.t 0)⟩,
  ⟨some 15, none, .mv false (.t 3)⟩,
  ⟨some 16, none, .slc 3 (.t 14) none (some (.t 15)) none⟩,
  ⟨some 17, none, .lenL (.t 16)⟩,
  ⟨some 18, none, .mv false (.c (.int .i64 0))⟩]
def fact_Sound_r5 : List LOper := [
  ⟨some 19, none, .bin .lss (.t 18) (.t 17)⟩]
def fact_Sound_r6 : List LOper := [
  ⟨some 20, none, .indexAddr 3 (.t 16) (.t 18)⟩,
  ⟨some 21, none, .load false true 3 (.t 20)⟩,
  ⟨some 6, none, .alloc [.int .i64 0, .int .i64 0, .int .i64 0]⟩,
  ⟨none, none, .store 3 (.t 6) (.t 21)⟩]
def fact_Sound_r7 : List LOper := [
  ⟨some 22, none, .load false true 3 (.t 4)⟩,
  ⟨some 23, none, .load false true 3 (.t 6)⟩,
  ⟨some 24, none, .call false 19 [(.t 22), (.t 23)]⟩]
def fact_Sound_r8 : List LOper := [
  ⟨some 2, none, .mv false (.c (.bool false))⟩]
def fact_Sound_r9 : List LOper := [
  ⟨some 25, none, .bin .add (.t 18) (.c (.int .i64 1))⟩,
  ⟨some 18, none, .mv false (.t 25)⟩]
def fact_Sound_b1 : LCode := (.seq (.ops fact_Sound_r5) (.seq (.cond (.t 19) .skip (.exit 2)) (.seq (.block 3 (.seq (.ops fact_Sound_r6) (.seq (.ops fact_Sound_r7) (.cond (.t 24) (.seq (.ops fact_Sound_r8) .ret) .skip)))) (.ops fact_Sound_r9))))
def fact_Sound_r10 : List LOper := [
  ⟨some 26, none, .bin .add (.t 9) (.c (.int .i64 1))⟩,
  ⟨some 9, none, .mv false (.t 26)⟩]
def fact_Sound_b0 : LCode := (.seq (.ops fact_Sound_r2) (.seq (.cond (.t 10) .skip (.exit 0)) (.seq (.block 1 (.seq (.ops fact_Sound_r3) (.seq (.ops fact_Sound_r4) (.block 2 (.loop [0, 4, 7, 8, 9, 16, 17, 18] fact_Sound_b1))))) (.ops fact_Sound_r10))))
def fact_Sound_r11 : List LOper := [
  ⟨some 2, none, .mv false (.c (.bool true))⟩]
def fact_Sound_f : LFunc := ⟨27, 1, [.tmp 2], (.seq (.ops fact_Sound_r0) (.seq (.seq (.ops fact_Sound_r1) (.block 0 (.loop [0, 7, 8, 9] fact_Sound_b0))) (.seq (.ops fact_Sound_r11) .ret)))⟩
def fact_Sound_v : VFunc := ⟨fact_Sound_f, true, false, false⟩
theorem fact_Sound_ok : preFunc Try.prog ⟨[], [], []⟩ Try.f21 [[0, 7, 8, 9], [0, 4, 7, 8, 9, 16, 17, 18]] = some fact_Sound_f := by kernel_rfl

-- gantry/fact.Join
def fact_Join_r0 : List LOper := [
  ⟨some 4, none, .mv false (.c (.nilslice))⟩]
def fact_Join_r1 : List LOper := [
  ⟨some 5, none, .mv false (.t 0)⟩,
  ⟨some 6, none, .mv false (.t 1)⟩,
  ⟨some 7, none, .bslice false 2 1 [.nilslice, .nilslice] [(0, 1, (.t 5)), (1, 1, (.t 6))]⟩,
  ⟨some 8, none, .call false 40 [(.t 7)]⟩,
  ⟨some 9, none, .call false 17 [(.t 8)]⟩,
  ⟨some 4, none, .mv false (.t 9)⟩]
def fact_Join_f : LFunc := ⟨10, 2, [.tmp 4], (.seq (.ops fact_Join_r0) (.seq (.ops fact_Join_r1) .ret))⟩
def fact_Join_v : VFunc := ⟨fact_Join_f, true, false, false⟩
theorem fact_Join_ok : preFunc Try.prog ⟨[], [], []⟩ Try.f22 [] = some fact_Join_f := by kernel_rfl

-- gantry/fact.Meet
def fact_Meet_r0 : List LOper := [
  ⟨some 4, none, .mv false (.c (.nilslice))⟩]
def fact_Meet_r1 : List LOper := [
  ⟨some 5, none, .mv true (.c (.nilslice))⟩]
def fact_Meet_r2 : List LOper := [
  ⟨some 8, none, .mv false (.t 0)⟩,
  ⟨some 9, none, .lenL (.t 8)⟩,
  ⟨some 10, none, .mv false (.c (.int .i64 0))⟩]
def fact_Meet_r3 : List LOper := [
  ⟨some 11, none, .bin .lss (.t 10) (.t 9)⟩]
def fact_Meet_r4 : List LOper := [
  ⟨some 12, none, .indexAddr 3 (.t 8) (.t 10)⟩,
  ⟨some 13, none, .load false true 3 (.t 12)⟩,
  ⟨some 7, none, .alloc [.int .i64 0, .int .i64 0, .int .i64 0]⟩,
  ⟨none, none, .store 3 (.t 7) (.t 13)⟩]
def fact_Meet_r5 : List LOper := [
  ⟨some 14, none, .mv false (.t 1)⟩,
  ⟨some 15, none, .load false true 3 (.t 7)⟩,
  ⟨some 16, none, .call false 56 [(.t 14), (.t 15)]⟩]
def fact_Meet_r6 : List LOper := [
  ⟨some 17, none, .mv true (.t 5)⟩,
  ⟨some 18, none, .load false true 3 (.t 7)⟩,
  ⟨some 19, none, .bslice false 1 3 [.int .i64 0, .int .i64 0, .int .i64 0] [(0, 3, (.t 18))]⟩,
  ⟨some 20, none, .append true 3 24 (.t 17) (.t 19)⟩,
  ⟨some 5, none, .mv true (.t 20)⟩]
def fact_Meet_r7 : List LOper := [
  ⟨some 21, none, .bin .add (.t 10) (.c (.int .i64 1))⟩,
  ⟨some 10, none, .mv false (.t 21)⟩]
def fact_Meet_b0 : LCode := (.seq (.ops fact_Meet_r3) (.seq (.cond (.t 11) .skip (.exit 0)) (.seq (.block 1 (.seq (.ops fact_Meet_r4) (.seq (.ops fact_Meet_r5) (.cond (.t 16) (.ops fact_Meet_r6) .skip)))) (.ops fact_Meet_r7))))
def fact_Meet_r8 : List LOper := [
  ⟨some 22, none, .mv false (.t 5)⟩,
  ⟨some 23, none, .call false 17 [(.t 22)]⟩,
  ⟨some 4, none, .mv false (.t 23)⟩]
def fact_Meet_f : LFunc := ⟨24, 2, [.tmp 4], (.seq (.ops fact_Meet_r0) (.seq (.ops fact_Meet_r1) (.seq (.seq (.ops fact_Meet_r2) (.block 0 (.loop [1, 5, 8, 9, 10] fact_Meet_b0))) (.seq (.ops fact_Meet_r8) .ret))))⟩
def fact_Meet_v : VFunc := ⟨fact_Meet_f, true, false, false⟩
theorem fact_Meet_ok : preFunc Try.prog ⟨[5, 17, 20], [], []⟩ Try.f23 [[1, 5, 8, 9, 10]] = some fact_Meet_f := by kernel_rfl

-- gantry/fact.Minus
def fact_Minus_r0 : List LOper := [
  ⟨some 4, none, .mv false (.c (.nilslice))⟩]
def fact_Minus_r1 : List LOper := [
  ⟨some 5, none, .mv true (.c (.nilslice))⟩]
def fact_Minus_r2 : List LOper := [
  ⟨some 8, none, .mv false (.t 0)⟩,
  ⟨some 9, none, .lenL (.t 8)⟩,
  ⟨some 10, none, .mv false (.c (.int .i64 0))⟩]
def fact_Minus_r3 : List LOper := [
  ⟨some 11, none, .bin .lss (.t 10) (.t 9)⟩]
def fact_Minus_r4 : List LOper := [
  ⟨some 12, none, .indexAddr 3 (.t 8) (.t 10)⟩,
  ⟨some 13, none, .load false true 3 (.t 12)⟩,
  ⟨some 7, none, .alloc [.int .i64 0, .int .i64 0, .int .i64 0]⟩,
  ⟨none, none, .store 3 (.t 7) (.t 13)⟩]
def fact_Minus_r5 : List LOper := [
  ⟨some 14, none, .mv false (.t 1)⟩,
  ⟨some 15, none, .load false true 3 (.t 7)⟩,
  ⟨some 16, none, .call false 56 [(.t 14), (.t 15)]⟩,
  ⟨some 17, none, .un .not (.t 16)⟩]
def fact_Minus_r6 : List LOper := [
  ⟨some 18, none, .mv true (.t 5)⟩,
  ⟨some 19, none, .load false true 3 (.t 7)⟩,
  ⟨some 20, none, .bslice false 1 3 [.int .i64 0, .int .i64 0, .int .i64 0] [(0, 3, (.t 19))]⟩,
  ⟨some 21, none, .append true 3 24 (.t 18) (.t 20)⟩,
  ⟨some 5, none, .mv true (.t 21)⟩]
def fact_Minus_r7 : List LOper := [
  ⟨some 22, none, .bin .add (.t 10) (.c (.int .i64 1))⟩,
  ⟨some 10, none, .mv false (.t 22)⟩]
def fact_Minus_b0 : LCode := (.seq (.ops fact_Minus_r3) (.seq (.cond (.t 11) .skip (.exit 0)) (.seq (.block 1 (.seq (.ops fact_Minus_r4) (.seq (.ops fact_Minus_r5) (.cond (.t 17) (.ops fact_Minus_r6) .skip)))) (.ops fact_Minus_r7))))
def fact_Minus_r8 : List LOper := [
  ⟨some 23, none, .mv false (.t 5)⟩,
  ⟨some 24, none, .call false 17 [(.t 23)]⟩,
  ⟨some 4, none, .mv false (.t 24)⟩]
def fact_Minus_f : LFunc := ⟨25, 2, [.tmp 4], (.seq (.ops fact_Minus_r0) (.seq (.ops fact_Minus_r1) (.seq (.seq (.ops fact_Minus_r2) (.block 0 (.loop [1, 5, 8, 9, 10] fact_Minus_b0))) (.seq (.ops fact_Minus_r8) .ret))))⟩
def fact_Minus_v : VFunc := ⟨fact_Minus_f, true, false, false⟩
theorem fact_Minus_ok : preFunc Try.prog ⟨[5, 18, 21], [], []⟩ Try.f24 [[1, 5, 8, 9, 10]] = some fact_Minus_f := by kernel_rfl

-- gantry/gantkeep4.FactLaws$1
def gantkeep4_FactLaws_1_r0 : List LOper := [
  ⟨some 4, none, .mv false (.c (.bool false))⟩]
def gantkeep4_FactLaws_1_r1 : List LOper := [
  ⟨some 5, none, .mv false (.t 0)⟩,
  ⟨some 6, none, .mv false (.t 1)⟩,
  ⟨some 7, none, .call false 26 [(.t 5), (.t 6)]⟩,
  ⟨some 4, none, .mv false (.t 7)⟩]
def gantkeep4_FactLaws_1_f : LFunc := ⟨8, 2, [.tmp 4], (.seq (.ops gantkeep4_FactLaws_1_r0) (.seq (.ops gantkeep4_FactLaws_1_r1) .ret))⟩
def gantkeep4_FactLaws_1_v : VFunc := ⟨gantkeep4_FactLaws_1_f, true, false, false⟩
theorem gantkeep4_FactLaws_1_ok : preFunc Try.prog ⟨[], [], []⟩ Try.f25 [] = some gantkeep4_FactLaws_1_f := by kernel_rfl

-- slices.Equal[[]gantry/fact.Fact,gantry/fact.Fact]
def slices_Equal_gantryfactFact_r0 : List LOper := [
  ⟨some 4, none, .mv false (.c (.bool false))⟩]
def slices_Equal_gantryfactFact_r1 : List LOper := [
  ⟨some 6, none, .mv false (.t 0)⟩,
  ⟨some 7, none, .lenL (.t 6)⟩,
  ⟨some 8, none, .mv false (.t 1)⟩,
  ⟨some 9, none, .lenL (.t 8)⟩,
  ⟨some 10, none, .bin .neq (.t 7) (.t 9)⟩]
def slices_Equal_gantryfactFact_r2 : List LOper := [
  ⟨some 4, none, .mv false (.c (.bool false))⟩]
def slices_Equal_gantryfactFact_r3 : List LOper := [
  ⟨some 11, none, .mv false (.t 0)⟩,
  ⟨some 12, none, .lenL (.t 11)⟩,
  ⟨some 13, none, .mv false (.c (.int .i64 0))⟩]
def slices_Equal_gantryfactFact_r4 : List LOper := [
  ⟨some 14, none, .bin .lss (.t 13) (.t 12)⟩]
def slices_Equal_gantryfactFact_r5 : List LOper := [
  ⟨some 15, none, .mv false (.t 13)⟩,
  ⟨some 5, none, .mv false (.t 15)⟩]
def slices_Equal_gantryfactFact_r6 : List LOper := [
  ⟨some 16, none, .mv false (.t 0)⟩,
  ⟨some 17, none, .mv false (.t 5)⟩,
  ⟨some 18, none, .indexAddr 3 (.t 16) (.t 17)⟩,
  ⟨some 19, none, .load false true 3 (.t 18)⟩,
  ⟨some 20, none, .mv false (.t 1)⟩,
  ⟨some 21, none, .mv false (.t 5)⟩,
  ⟨some 22, none, .indexAddr 3 (.t 20) (.t 21)⟩,
  ⟨some 23, none, .load false true 3 (.t 22)⟩,
  ⟨some 24, none, .eqv true (.struct [.i, .i, .i]) (.t 19) (.t 23)⟩]
theorem slices_Equal_gantryfactFact_r6_d : drawC [0, 0, 3, 7, 0, 0, 48, 112, 255] [
  ⟨some 16, none, .mv false (.t 0)⟩,
  ⟨some 17, none, .mv false (.t 5)⟩,
  ⟨some 18, none, .indexAddr 3 (.t 16) (.t 17)⟩,
  ⟨some 19, none, .load false true 3 (.t 18)⟩,
  ⟨some 20, none, .mv false (.t 1)⟩,
  ⟨some 21, none, .mv false (.t 5)⟩,
  ⟨some 22, none, .indexAddr 3 (.t 20) (.t 21)⟩,
  ⟨some 23, none, .load false true 3 (.t 22)⟩,
  ⟨some 24, none, .eqv true (.struct [.i, .i, .i]) (.t 19) (.t 23)⟩] = true := by kernel_rfl
def slices_Equal_gantryfactFact_r7 : List LOper := [
  ⟨some 4, none, .mv false (.c (.bool false))⟩]
def slices_Equal_gantryfactFact_r8 : List LOper := [
  ⟨some 25, none, .bin .add (.t 13) (.c (.int .i64 1))⟩,
  ⟨some 13, none, .mv false (.t 25)⟩]
def slices_Equal_gantryfactFact_b0 : LCode := (.seq (.ops slices_Equal_gantryfactFact_r4) (.seq (.cond (.t 14) .skip (.exit 0)) (.seq (.block 1 (.seq (.ops slices_Equal_gantryfactFact_r5) (.seq (.dops [0, 0, 3, 7, 0, 0, 48, 112, 255] slices_Equal_gantryfactFact_r6) (.cond (.t 24) (.seq (.ops slices_Equal_gantryfactFact_r7) .ret) .skip)))) (.ops slices_Equal_gantryfactFact_r8))))
def slices_Equal_gantryfactFact_r9 : List LOper := [
  ⟨some 4, none, .mv false (.c (.bool true))⟩]
def slices_Equal_gantryfactFact_f : LFunc := ⟨26, 2, [.tmp 4], (.seq (.ops slices_Equal_gantryfactFact_r0) (.seq (.seq (.ops slices_Equal_gantryfactFact_r1) (.cond (.t 10) (.seq (.ops slices_Equal_gantryfactFact_r2) .ret) .skip)) (.seq (.seq (.ops slices_Equal_gantryfactFact_r3) (.block 0 (.loop [0, 1, 12, 13] slices_Equal_gantryfactFact_b0))) (.seq (.ops slices_Equal_gantryfactFact_r9) .ret))))⟩
def slices_Equal_gantryfactFact_v : VFunc := ⟨slices_Equal_gantryfactFact_f, true, false, false⟩
theorem slices_Equal_gantryfactFact_ok : preFunc Try.prog ⟨[], [], []⟩ Try.f26 [[0, 1, 12, 13]] = some slices_Equal_gantryfactFact_f := by kernel_rfl

-- gantry/fact.IsSet
def fact_IsSet_r0 : List LOper := [
  ⟨some 2, none, .mv false (.c (.bool false))⟩]
def fact_IsSet_r1 : List LOper := [
  ⟨some 5, none, .mv false (.t 0)⟩,
  ⟨some 6, none, .lenL (.t 5)⟩,
  ⟨some 7, none, .mv false (.c (.int .i64 0))⟩]
def fact_IsSet_r2 : List LOper := [
  ⟨some 8, none, .bin .lss (.t 7) (.t 6)⟩]
def fact_IsSet_r3 : List LOper := [
  ⟨some 9, none, .mv false (.t 7)⟩,
  ⟨some 10, none, .indexAddr 3 (.t 5) (.t 7)⟩,
  ⟨some 11, none, .load false true 3 (.t 10)⟩,
  ⟨some 4, none, .alloc [.int .i64 0, .int .i64 0, .int .i64 0]⟩,
  ⟨some 3, none, .mv false (.t 9)⟩,
  ⟨none, none, .store 3 (.t 4) (.t 11)⟩]
def fact_IsSet_r4 : List LOper := [
  ⟨some 12, none, .load false true 3 (.t 4)⟩,
  ⟨some 13, none, .call true 52 [(.t 12)]⟩,
  ⟨some 14, none, .un .not (.t 13)⟩,
  ⟨some 15, none, .mv false (.t 14)⟩,
  ⟨some 16, some (15, false), .mv false (.t 3)⟩,
  ⟨some 17, some (15, false), .bin .gtr (.t 16) (.c (.int .i64 0))⟩,
  ⟨some 18, some (15, false), .mv false (.t 17)⟩,
  ⟨some 19, some (18, true), .mv false (.t 0)⟩,
  ⟨some 20, some (18, true), .mv false (.t 3)⟩,
  ⟨some 21, some (18, true), .bin .sub (.t 20) (.c (.int .i64 1))⟩,
  ⟨some 22, some (18, true), .indexAddr 3 (.t 19) (.t 21)⟩,
  ⟨some 23, some (18, true), .load false true 3 (.t 22)⟩,
  ⟨some 24, some (18, true), .load false true 3 (.t 4)⟩,
  ⟨some 25, some (18, true), .call true 54 [(.t 23), (.t 24)]⟩,
  ⟨some 26, some (18, true), .bin .geq (.t 25) (.c (.int .i64 0))⟩,
  ⟨some 27, some (15, false), .pick (.t 18) (.t 26) (.c (.bool false))⟩,
  ⟨some 28, none, .pick (.t 15) (.c (.bool true)) (.t 27)⟩]
theorem fact_IsSet_r4_d : drawC [0, 1, 3, 7, 15, 31, 63, 127, 127, 383, 1023, 2047, 127, 8191, 16383, 32767, 65535] [
  ⟨some 12, none, .load false true 3 (.t 4)⟩,
  ⟨some 13, none, .call true 52 [(.t 12)]⟩,
  ⟨some 14, none, .un .not (.t 13)⟩,
  ⟨some 15, none, .mv false (.t 14)⟩,
  ⟨some 16, some (15, false), .mv false (.t 3)⟩,
  ⟨some 17, some (15, false), .bin .gtr (.t 16) (.c (.int .i64 0))⟩,
  ⟨some 18, some (15, false), .mv false (.t 17)⟩,
  ⟨some 19, some (18, true), .mv false (.t 0)⟩,
  ⟨some 20, some (18, true), .mv false (.t 3)⟩,
  ⟨some 21, some (18, true), .bin .sub (.t 20) (.c (.int .i64 1))⟩,
  ⟨some 22, some (18, true), .indexAddr 3 (.t 19) (.t 21)⟩,
  ⟨some 23, some (18, true), .load false true 3 (.t 22)⟩,
  ⟨some 24, some (18, true), .load false true 3 (.t 4)⟩,
  ⟨some 25, some (18, true), .call true 54 [(.t 23), (.t 24)]⟩,
  ⟨some 26, some (18, true), .bin .geq (.t 25) (.c (.int .i64 0))⟩,
  ⟨some 27, some (15, false), .pick (.t 18) (.t 26) (.c (.bool false))⟩,
  ⟨some 28, none, .pick (.t 15) (.c (.bool true)) (.t 27)⟩] = true := by kernel_rfl
def fact_IsSet_r5 : List LOper := [
  ⟨some 2, none, .mv false (.c (.bool false))⟩]
def fact_IsSet_r6 : List LOper := [
  ⟨some 29, none, .bin .add (.t 7) (.c (.int .i64 1))⟩,
  ⟨some 7, none, .mv false (.t 29)⟩]
def fact_IsSet_b0 : LCode := (.seq (.ops fact_IsSet_r2) (.seq (.cond (.t 8) .skip (.exit 0)) (.seq (.block 1 (.seq (.ops fact_IsSet_r3) (.seq (.dops [0, 1, 3, 7, 15, 31, 63, 127, 127, 383, 1023, 2047, 127, 8191, 16383, 32767, 65535] fact_IsSet_r4) (.cond (.t 28) (.seq (.ops fact_IsSet_r5) .ret) .skip)))) (.ops fact_IsSet_r6))))
def fact_IsSet_r7 : List LOper := [
  ⟨some 2, none, .mv false (.c (.bool true))⟩]
def fact_IsSet_f : LFunc := ⟨30, 1, [.tmp 2], (.seq (.ops fact_IsSet_r0) (.seq (.seq (.ops fact_IsSet_r1) (.block 0 (.loop [0, 5, 6, 7] fact_IsSet_b0))) (.seq (.ops fact_IsSet_r7) .ret)))⟩
def fact_IsSet_v : VFunc := ⟨fact_IsSet_f, true, false, false⟩
theorem fact_IsSet_ok : preFunc Try.prog ⟨[], [], [13, 25]⟩ Try.f27 [[0, 5, 6, 7]] = some fact_IsSet_f := by kernel_rfl

-- gantry/fact.Within
def fact_Within_r0 : List LOper := [
  ⟨some 3, none, .box (.t 1)⟩,
  ⟨some 4, none, .mv false (.c (.bool false))⟩]
def fact_Within_r1 : List LOper := [
  ⟨some 5, none, .mv false (.t 0)⟩,
  ⟨some 6, none, .mkfunc 58 [(.t 3)]⟩,
  ⟨some 7, none, .call false 57 [(.t 5), (.t 6)]⟩,
  ⟨some 8, none, .un .not (.t 7)⟩,
  ⟨some 4, none, .mv false (.t 8)⟩]
def fact_Within_f : LFunc := ⟨9, 2, [.tmp 4], (.seq (.ops fact_Within_r0) (.seq (.ops fact_Within_r1) .ret))⟩
def fact_Within_v : VFunc := ⟨fact_Within_f, true, false, false⟩
theorem fact_Within_ok : preFunc Try.prog ⟨[], [], []⟩ Try.f28 [] = some fact_Within_f := by kernel_rfl

-- gantry/fact.Apply
def fact_Apply_r0 : List LOper := [
  ⟨some 6, none, .mv false (.c (.nilslice))⟩]
def fact_Apply_r1 : List LOper := [
  ⟨some 7, none, .mv false (.t 0)⟩,
  ⟨some 8, none, .mv false (.t 1)⟩,
  ⟨some 9, none, .call false 24 [(.t 7), (.t 8)]⟩,
  ⟨some 10, none, .mv false (.t 2)⟩,
  ⟨some 11, none, .call false 22 [(.t 9), (.t 10)]⟩,
  ⟨some 6, none, .mv false (.t 11)⟩]
def fact_Apply_f : LFunc := ⟨12, 3, [.tmp 6], (.seq (.ops fact_Apply_r0) (.seq (.ops fact_Apply_r1) .ret))⟩
def fact_Apply_v : VFunc := ⟨fact_Apply_f, true, false, false⟩
theorem fact_Apply_ok : preFunc Try.prog ⟨[], [], []⟩ Try.f29 [] = some fact_Apply_f := by kernel_rfl

-- gantry/gantmake.Below
def gantmake_Below_r0 : List LOper := [
  ⟨some 4, none, .mv false (.c (.int .i64 0))⟩]
def gantmake_Below_r1 : List LOper := [
  ⟨some 5, none, .mv false (.t 0)⟩,
  ⟨some 6, none, .mv false (.t 1)⟩,
  ⟨some 7, none, .bin .rem (.t 5) (.t 6)⟩,
  ⟨some 0, none, .mv false (.t 7)⟩]
def gantmake_Below_r2 : List LOper := [
  ⟨some 8, none, .mv false (.t 0)⟩,
  ⟨some 9, none, .bin .lss (.t 8) (.c (.int .i64 0))⟩]
def gantmake_Below_r3 : List LOper := [
  ⟨some 10, none, .mv false (.t 0)⟩,
  ⟨some 11, none, .mv false (.t 1)⟩,
  ⟨some 12, none, .bin .add (.t 10) (.t 11)⟩,
  ⟨some 0, none, .mv false (.t 12)⟩]
def gantmake_Below_r4 : List LOper := [
  ⟨some 13, none, .mv false (.t 0)⟩,
  ⟨some 4, none, .mv false (.t 13)⟩]
def gantmake_Below_f : LFunc := ⟨14, 2, [.tmp 4], (.seq (.ops gantmake_Below_r0) (.seq (.ops gantmake_Below_r1) (.seq (.seq (.ops gantmake_Below_r2) (.cond (.t 9) (.ops gantmake_Below_r3) .skip)) (.seq (.ops gantmake_Below_r4) .ret))))⟩
def gantmake_Below_v : VFunc := ⟨gantmake_Below_f, true, false, false⟩
theorem gantmake_Below_ok : preFunc Try.prog ⟨[], [], []⟩ Try.f30 [] = some gantmake_Below_f := by kernel_rfl

-- gantry/act.Steps
def act_Steps_r0 : List LOper := [
  ⟨some 1, none, .box (.t 0)⟩,
  ⟨some 2, none, .mv false (.c (.nilslice))⟩]
def act_Steps_r1 : List LOper := [
  ⟨some 8, none, .load false true 4 (.t 1)⟩,
  ⟨some 9, none, .call false 36 [(.t 8)]⟩,
  ⟨some 10, none, .bin .neq (.t 9) (.c (.int .i64 0))⟩]
def act_Steps_r2 : List LOper := [
  ⟨some 2, none, .mv false (.c (.nilslice))⟩]
def act_Steps_r3 : List LOper := [
  ⟨some 3, none, .mv false (.c (.nilslice))⟩]
def act_Steps_r4 : List LOper := [
  ⟨some 4, none, .mv false (.c (.int .i64 0))⟩]
def act_Steps_r5 : List LOper := [
  ⟨some 11, none, .mv false (.t 4)⟩,
  ⟨some 12, none, .bin .leq (.t 11) (.c (.int .i64 3))⟩]
def act_Steps_r6 : List LOper := [
  ⟨some 15, none, .fieldAddr 3 (.t 1)⟩,
  ⟨some 16, none, .load false false 1 (.t 15)⟩,
  ⟨some 17, none, .lenL (.t 16)⟩,
  ⟨some 18, none, .mv false (.c (.int .i64 0))⟩]
def act_Steps_r7 : List LOper := [
  ⟨some 19, none, .bin .lss (.t 18) (.t 17)⟩]
def act_Steps_r8 : List LOper := [
  ⟨some 20, none, .mv false (.t 18)⟩,
  ⟨some 5, none, .mv false (.t 20)⟩]
def act_Steps_r9 : List LOper := [
  ⟨some 21, none, .fieldAddr 1 (.t 1)⟩,
  ⟨some 22, none, .load false false 1 (.t 21)⟩,
  ⟨some 23, none, .lenL (.t 22)⟩,
  ⟨some 24, none, .mv false (.c (.int .i64 0))⟩]
def act_Steps_r10 : List LOper := [
  ⟨some 25, none, .bin .lss (.t 24) (.t 23)⟩]
def act_Steps_r11 : List LOper := [
  ⟨some 26, none, .mv false (.t 24)⟩,
  ⟨some 6, none, .mv false (.t 26)⟩]
def act_Steps_r12 : List LOper := [
  ⟨some 27, none, .mv false (.t 3)⟩,
  ⟨some 28, none, .mv false (.t 4)⟩,
  ⟨some 29, none, .mv false (.t 5)⟩,
  ⟨some 30, none, .mv false (.t 6)⟩,
  ⟨some 31, none, .build [.int .i64 0, .int .i64 0, .int .i64 0, .int .i64 0, .int .i64 0] [(0, 1, (.t 28)), (1, 1, (.t 29)), (2, 1, (.t 30)), (3, 1, (.c (.int .i64 (-1))))]⟩,
  ⟨some 32, none, .bslice false 1 5 [.int .i64 0, .int .i64 0, .int .i64 0, .int .i64 0, .int .i64 0] [(0, 5, (.t 31))]⟩,
  ⟨some 33, none, .append false 5 40 (.t 27) (.t 32)⟩,
  ⟨some 3, none, .mv false (.t 33)⟩]
def act_Steps_r13 : List LOper := [
  ⟨some 34, none, .bin .add (.t 24) (.c (.int .i64 1))⟩,
  ⟨some 24, none, .mv false (.t 34)⟩]
def act_Steps_b2 : LCode := (.seq (.ops act_Steps_r10) (.seq (.cond (.t 25) .skip (.exit 4)) (.seq (.block 5 (.seq (.ops act_Steps_r11) (.ops act_Steps_r12))) (.ops act_Steps_r13))))
def act_Steps_r14 : List LOper := [
  ⟨some 35, none, .fieldAddr 0 (.t 1)⟩,
  ⟨some 36, none, .load false false 1 (.t 35)⟩,
  ⟨some 37, none, .mv false (.c (.int .i64 0))⟩]
def act_Steps_r15 : List LOper := [
  ⟨some 38, none, .bin .lss (.t 37) (.t 36)⟩]
def act_Steps_r16 : List LOper := [
  ⟨some 39, none, .mv false (.t 37)⟩,
  ⟨some 7, none, .mv false (.t 39)⟩]
def act_Steps_r17 : List LOper := [
  ⟨some 40, none, .mv false (.t 3)⟩,
  ⟨some 41, none, .mv false (.t 4)⟩,
  ⟨some 42, none, .mv false (.t 5)⟩,
  ⟨some 43, none, .mv false (.t 7)⟩,
  ⟨some 44, none, .build [.int .i64 0, .int .i64 0, .int .i64 0, .int .i64 0, .int .i64 0] [(0, 1, (.t 41)), (1, 1, (.t 42)), (2, 1, (.c (.int .i64 (-1)))), (3, 1, (.t 43))]⟩,
  ⟨some 45, none, .bslice false 1 5 [.int .i64 0, .int .i64 0, .int .i64 0, .int .i64 0, .int .i64 0] [(0, 5, (.t 44))]⟩,
  ⟨some 46, none, .append false 5 40 (.t 40) (.t 45)⟩,
  ⟨some 3, none, .mv false (.t 46)⟩]
def act_Steps_r18 : List LOper := [
  ⟨some 47, none, .bin .add (.t 37) (.c (.int .i64 1))⟩,
  ⟨some 37, none, .mv false (.t 47)⟩]
def act_Steps_b3 : LCode := (.seq (.ops act_Steps_r15) (.seq (.cond (.t 38) .skip (.exit 6)) (.seq (.block 7 (.seq (.ops act_Steps_r16) (.ops act_Steps_r17))) (.ops act_Steps_r18))))
def act_Steps_r19 : List LOper := [
  ⟨some 48, none, .bin .add (.t 18) (.c (.int .i64 1))⟩,
  ⟨some 18, none, .mv false (.t 48)⟩]
def act_Steps_b1 : LCode := (.seq (.ops act_Steps_r7) (.seq (.cond (.t 19) .skip (.exit 2)) (.seq (.block 3 (.seq (.ops act_Steps_r8) (.seq (.seq (.ops act_Steps_r9) (.block 4 (.loop [1, 3, 4, 5, 17, 18, 23, 24] act_Steps_b2))) (.seq (.ops act_Steps_r14) (.block 6 (.loop [1, 3, 4, 5, 17, 18, 36, 37] act_Steps_b3)))))) (.ops act_Steps_r19))))
def act_Steps_r20 : List LOper := [
  ⟨some 13, none, .mv false (.t 4)⟩,
  ⟨some 14, none, .bin .add (.t 13) (.c (.int .i64 1))⟩,
  ⟨some 4, none, .mv false (.t 14)⟩]
def act_Steps_b0 : LCode := (.seq (.seq (.ops act_Steps_r5) (.cond (.t 12) .skip (.exit 0))) (.seq (.block 1 (.seq (.ops act_Steps_r6) (.block 2 (.loop [1, 3, 4, 17, 18] act_Steps_b1)))) (.ops act_Steps_r20)))
def act_Steps_r21 : List LOper := [
  ⟨some 49, none, .mv false (.t 3)⟩,
  ⟨some 50, none, .mkfunc 60 [(.t 1)]⟩,
  ⟨some 51, none, .call false 59 [(.t 49), (.t 50)]⟩,
  ⟨some 3, none, .mv false (.t 51)⟩]
def act_Steps_r22 : List LOper := [
  ⟨some 52, none, .mv false (.t 3)⟩,
  ⟨some 53, none, .call false 61 [(.t 52), (.c (.func 35 []))]⟩]
def act_Steps_r23 : List LOper := [
  ⟨some 54, none, .mv false (.t 3)⟩,
  ⟨some 2, none, .mv false (.t 54)⟩]
def act_Steps_f : LFunc := ⟨55, 1, [.tmp 2], (.seq (.ops act_Steps_r0) (.seq (.seq (.ops act_Steps_r1) (.cond (.t 10) (.seq (.ops act_Steps_r2) .ret) .skip)) (.seq (.ops act_Steps_r3) (.seq (.seq (.ops act_Steps_r4) (.block 0 (.loop [1, 3, 4] act_Steps_b0))) (.seq (.ops act_Steps_r21) (.seq (.ops act_Steps_r22) (.seq (.ops act_Steps_r23) .ret)))))))⟩
def act_Steps_v : VFunc := ⟨act_Steps_f, true, false, false⟩
theorem act_Steps_ok : preFunc Try.prog ⟨[], [33, 46], []⟩ Try.f31 [[1, 3, 4], [1, 3, 4, 17, 18], [1, 3, 4, 5, 17, 18, 23, 24], [1, 3, 4, 5, 17, 18, 36, 37]] = some act_Steps_f := by kernel_rfl

-- slices.Contains[[]gantry/api.Step,gantry/api.Step]
def slices_Contains_pgantryapiStep_r0 : List LOper := [
  ⟨some 3, none, .box (.t 1)⟩,
  ⟨some 4, none, .mv false (.c (.bool false))⟩]
def slices_Contains_pgantryapiStep_r1 : List LOper := [
  ⟨some 5, none, .mv false (.t 0)⟩,
  ⟨some 6, none, .load false true 5 (.t 3)⟩,
  ⟨some 7, none, .call false 62 [(.t 5), (.t 6)]⟩,
  ⟨some 8, none, .bin .geq (.t 7) (.c (.int .i64 0))⟩,
  ⟨some 4, none, .mv false (.t 8)⟩]
def slices_Contains_pgantryapiStep_f : LFunc := ⟨9, 2, [.tmp 4], (.seq (.ops slices_Contains_pgantryapiStep_r0) (.seq (.ops slices_Contains_pgantryapiStep_r1) .ret))⟩
def slices_Contains_pgantryapiStep_v : VFunc := ⟨slices_Contains_pgantryapiStep_f, true, false, false⟩
theorem slices_Contains_pgantryapiStep_ok : preFunc Try.prog ⟨[], [], []⟩ Try.f32 [] = some slices_Contains_pgantryapiStep_f := by kernel_rfl

-- gantry/act.Can
def act_Can_r0 : List LOper := [
  ⟨some 2, none, .box (.t 0)⟩,
  ⟨some 3, none, .box (.t 1)⟩,
  ⟨some 4, none, .mv false (.c (.int .i64 0))⟩]
def act_Can_r1 : List LOper := [
  ⟨some 6, none, .load false true 4 (.t 2)⟩,
  ⟨some 7, none, .call false 36 [(.t 6)]⟩,
  ⟨some 5, none, .mv false (.t 7)⟩]
def act_Can_r2 : List LOper := [
  ⟨some 8, none, .mv false (.t 5)⟩,
  ⟨some 9, none, .bin .neq (.t 8) (.c (.int .i64 0))⟩]
def act_Can_r3 : List LOper := [
  ⟨some 10, none, .mv false (.t 5)⟩,
  ⟨some 4, none, .mv false (.t 10)⟩]
def act_Can_r4 : List LOper := [
  ⟨some 11, none, .load false true 5 (.t 3)⟩,
  ⟨some 12, none, .call false 63 [(.t 11)]⟩,
  ⟨some 13, none, .un .not (.t 12)⟩]
def act_Can_r5 : List LOper := [
  ⟨some 4, none, .mv false (.c (.int .i64 3))⟩]
def act_Can_r6 : List LOper := [
  ⟨some 14, none, .fieldAddr 1 (.t 3)⟩,
  ⟨some 15, none, .load false false 1 (.t 14)⟩,
  ⟨some 16, none, .fieldAddr 3 (.t 2)⟩,
  ⟨some 17, none, .load false false 1 (.t 16)⟩,
  ⟨some 18, none, .lenL (.t 17)⟩,
  ⟨some 19, none, .bin .geq (.t 15) (.t 18)⟩,
  ⟨some 20, none, .mv false (.t 19)⟩,
  ⟨some 21, some (20, false), .fieldAddr 2 (.t 3)⟩,
  ⟨some 22, some (20, false), .load false false 1 (.t 21)⟩,
  ⟨some 23, some (20, false), .fieldAddr 1 (.t 2)⟩,
  ⟨some 24, some (20, false), .load false false 1 (.t 23)⟩,
  ⟨some 25, some (20, false), .lenL (.t 24)⟩,
  ⟨some 26, some (20, false), .bin .geq (.t 22) (.t 25)⟩,
  ⟨some 27, none, .pick (.t 20) (.c (.bool true)) (.t 26)⟩,
  ⟨some 28, none, .mv false (.t 27)⟩,
  ⟨some 29, some (28, false), .fieldAddr 3 (.t 3)⟩,
  ⟨some 30, some (28, false), .load false false 1 (.t 29)⟩,
  ⟨some 31, some (28, false), .fieldAddr 0 (.t 2)⟩,
  ⟨some 32, some (28, false), .load false false 1 (.t 31)⟩,
  ⟨some 33, some (28, false), .bin .geq (.t 30) (.t 32)⟩,
  ⟨some 34, none, .pick (.t 28) (.c (.bool true)) (.t 33)⟩]
def act_Can_r7 : List LOper := [
  ⟨some 4, none, .mv false (.c (.int .i64 4))⟩]
def act_Can_r8 : List LOper := [
  ⟨some 35, none, .load false true 4 (.t 2)⟩,
  ⟨some 36, none, .load false true 5 (.t 3)⟩,
  ⟨some 37, none, .call false 64 [(.t 35), (.t 36)]⟩,
  ⟨some 4, none, .mv false (.t 37)⟩]
def act_Can_f : LFunc := ⟨38, 2, [.tmp 4], (.seq (.ops act_Can_r0) (.seq (.seq (.ops act_Can_r1) (.seq (.ops act_Can_r2) (.cond (.t 9) (.seq (.ops act_Can_r3) .ret) .skip))) (.seq (.seq (.ops act_Can_r4) (.cond (.t 13) (.seq (.ops act_Can_r5) .ret) .skip)) (.seq (.seq (.ops act_Can_r6) (.cond (.t 34) (.seq (.ops act_Can_r7) .ret) .skip)) (.seq (.ops act_Can_r8) .ret)))))⟩
def act_Can_v : VFunc := ⟨act_Can_f, true, false, false⟩
theorem act_Can_ok : preFunc Try.prog ⟨[], [], []⟩ Try.f33 [] = some act_Can_f := by kernel_rfl

-- slices.IsSortedFunc[[]gantry/api.Step,gantry/api.Step]
def slices_IsSortedFunc_pgantryapiStep_r0 : List LOper := [
  ⟨some 4, none, .mv false (.c (.bool false))⟩]
def slices_IsSortedFunc_pgantryapiStep_r1 : List LOper := [
  ⟨some 6, none, .mv false (.t 0)⟩,
  ⟨some 7, none, .lenL (.t 6)⟩,
  ⟨some 8, none, .bin .sub (.t 7) (.c (.int .i64 1))⟩,
  ⟨some 5, none, .mv false (.t 8)⟩]
def slices_IsSortedFunc_pgantryapiStep_r2 : List LOper := [
  ⟨some 9, none, .mv false (.t 5)⟩,
  ⟨some 10, none, .bin .gtr (.t 9) (.c (.int .i64 0))⟩]
def slices_IsSortedFunc_pgantryapiStep_r3 : List LOper := [
  ⟨some 13, none, .mv false (.t 1)⟩,
  ⟨some 14, none, .mv false (.t 0)⟩,
  ⟨some 15, none, .mv false (.t 5)⟩,
  ⟨some 16, none, .indexAddr 5 (.t 14) (.t 15)⟩,
  ⟨some 17, none, .load false true 5 (.t 16)⟩,
  ⟨some 18, none, .mv false (.t 0)⟩,
  ⟨some 19, none, .mv false (.t 5)⟩,
  ⟨some 20, none, .bin .sub (.t 19) (.c (.int .i64 1))⟩,
  ⟨some 21, none, .indexAddr 5 (.t 18) (.t 20)⟩,
  ⟨some 22, none, .load false true 5 (.t 21)⟩,
  ⟨some 23, none, .callv (.t 13) [(.t 17), (.t 22)]⟩,
  ⟨some 24, none, .bin .lss (.t 23) (.c (.int .i64 0))⟩]
theorem slices_IsSortedFunc_pgantryapiStep_r3_d : drawC [0, 0, 0, 6, 14, 0, 0, 64, 224, 480, 1023, 2047] [
  ⟨some 13, none, .mv false (.t 1)⟩,
  ⟨some 14, none, .mv false (.t 0)⟩,
  ⟨some 15, none, .mv false (.t 5)⟩,
  ⟨some 16, none, .indexAddr 5 (.t 14) (.t 15)⟩,
  ⟨some 17, none, .load false true 5 (.t 16)⟩,
  ⟨some 18, none, .mv false (.t 0)⟩,
  ⟨some 19, none, .mv false (.t 5)⟩,
  ⟨some 20, none, .bin .sub (.t 19) (.c (.int .i64 1))⟩,
  ⟨some 21, none, .indexAddr 5 (.t 18) (.t 20)⟩,
  ⟨some 22, none, .load false true 5 (.t 21)⟩,
  ⟨some 23, none, .callv (.t 13) [(.t 17), (.t 22)]⟩,
  ⟨some 24, none, .bin .lss (.t 23) (.c (.int .i64 0))⟩] = true := by kernel_rfl
def slices_IsSortedFunc_pgantryapiStep_r4 : List LOper := [
  ⟨some 4, none, .mv false (.c (.bool false))⟩]
def slices_IsSortedFunc_pgantryapiStep_r5 : List LOper := [
  ⟨some 11, none, .mv false (.t 5)⟩,
  ⟨some 12, none, .bin .sub (.t 11) (.c (.int .i64 1))⟩,
  ⟨some 5, none, .mv false (.t 12)⟩]
def slices_IsSortedFunc_pgantryapiStep_b0 : LCode := (.seq (.seq (.ops slices_IsSortedFunc_pgantryapiStep_r2) (.cond (.t 10) .skip (.exit 0))) (.seq (.block 1 (.seq (.dops [0, 0, 0, 6, 14, 0, 0, 64, 224, 480, 1023, 2047] slices_IsSortedFunc_pgantryapiStep_r3) (.cond (.t 24) (.seq (.ops slices_IsSortedFunc_pgantryapiStep_r4) .ret) .skip))) (.ops slices_IsSortedFunc_pgantryapiStep_r5)))
def slices_IsSortedFunc_pgantryapiStep_r6 : List LOper := [
  ⟨some 4, none, .mv false (.c (.bool true))⟩]
def slices_IsSortedFunc_pgantryapiStep_f : LFunc := ⟨25, 2, [.tmp 4], (.seq (.ops slices_IsSortedFunc_pgantryapiStep_r0) (.seq (.seq (.ops slices_IsSortedFunc_pgantryapiStep_r1) (.block 0 (.loop [0, 1, 5] slices_IsSortedFunc_pgantryapiStep_b0))) (.seq (.ops slices_IsSortedFunc_pgantryapiStep_r6) .ret)))⟩
def slices_IsSortedFunc_pgantryapiStep_v : VFunc := ⟨slices_IsSortedFunc_pgantryapiStep_f, true, false, false⟩
theorem slices_IsSortedFunc_pgantryapiStep_ok : preFunc Try.prog ⟨[], [], []⟩ Try.f34 [[0, 1, 5]] = some slices_IsSortedFunc_pgantryapiStep_f := by kernel_rfl

-- gantry/act.Compare
def act_Compare_r0 : List LOper := [
  ⟨some 2, none, .box (.t 0)⟩,
  ⟨some 3, none, .box (.t 1)⟩,
  ⟨some 4, none, .mv false (.c (.int .i64 0))⟩]
def act_Compare_r1 : List LOper := [
  ⟨some 5, none, .fieldAddr 0 (.t 2)⟩,
  ⟨some 6, none, .load false false 1 (.t 5)⟩,
  ⟨some 7, none, .fieldAddr 1 (.t 2)⟩,
  ⟨some 8, none, .load false false 1 (.t 7)⟩,
  ⟨some 9, none, .fieldAddr 2 (.t 2)⟩,
  ⟨some 10, none, .load false false 1 (.t 9)⟩,
  ⟨some 11, none, .fieldAddr 3 (.t 2)⟩,
  ⟨some 12, none, .load false false 1 (.t 11)⟩,
  ⟨some 13, none, .fieldAddr 4 (.t 2)⟩,
  ⟨some 14, none, .load false false 1 (.t 13)⟩,
  ⟨some 15, none, .bslice false 5 1 [.int .i64 0, .int .i64 0, .int .i64 0, .int .i64 0, .int .i64 0] [(0, 1, (.t 6)), (1, 1, (.t 8)), (2, 1, (.t 10)), (3, 1, (.t 12)), (4, 1, (.t 14))]⟩,
  ⟨some 16, none, .fieldAddr 0 (.t 3)⟩,
  ⟨some 17, none, .load false false 1 (.t 16)⟩,
  ⟨some 18, none, .fieldAddr 1 (.t 3)⟩,
  ⟨some 19, none, .load false false 1 (.t 18)⟩,
  ⟨some 20, none, .fieldAddr 2 (.t 3)⟩,
  ⟨some 21, none, .load false false 1 (.t 20)⟩,
  ⟨some 22, none, .fieldAddr 3 (.t 3)⟩,
  ⟨some 23, none, .load false false 1 (.t 22)⟩,
  ⟨some 24, none, .fieldAddr 4 (.t 3)⟩,
  ⟨some 25, none, .load false false 1 (.t 24)⟩,
  ⟨some 26, none, .bslice false 5 1 [.int .i64 0, .int .i64 0, .int .i64 0, .int .i64 0, .int .i64 0] [(0, 1, (.t 17)), (1, 1, (.t 19)), (2, 1, (.t 21)), (3, 1, (.t 23)), (4, 1, (.t 25))]⟩,
  ⟨some 27, none, .call false 65 [(.t 15), (.t 26)]⟩,
  ⟨some 4, none, .mv false (.t 27)⟩]
def act_Compare_f : LFunc := ⟨28, 2, [.tmp 4], (.seq (.ops act_Compare_r0) (.seq (.ops act_Compare_r1) .ret))⟩
def act_Compare_v : VFunc := ⟨act_Compare_f, true, false, false⟩
theorem act_Compare_ok : preFunc Try.prog ⟨[], [], []⟩ Try.f35 [] = some act_Compare_f := by kernel_rfl

-- gantry/act.Check
def act_Check_r0 : List LOper := [
  ⟨some 1, none, .box (.t 0)⟩,
  ⟨some 2, none, .mv false (.c (.int .i64 0))⟩]
def act_Check_r1 : List LOper := [
  ⟨some 7, none, .fieldAddr 0 (.t 1)⟩,
  ⟨some 8, none, .load false false 1 (.t 7)⟩,
  ⟨some 9, none, .bin .lss (.t 8) (.c (.int .i64 0))⟩,
  ⟨some 10, none, .mv false (.t 9)⟩,
  ⟨some 11, some (10, false), .fieldAddr 0 (.t 1)⟩,
  ⟨some 12, some (10, false), .load false false 1 (.t 11)⟩,
  ⟨some 13, some (10, false), .bin .gtr (.t 12) (.c (.int .i64 8))⟩,
  ⟨some 14, none, .pick (.t 10) (.c (.bool true)) (.t 13)⟩,
  ⟨some 15, none, .mv false (.t 14)⟩,
  ⟨some 16, some (15, false), .fieldAddr 1 (.t 1)⟩,
  ⟨some 17, some (15, false), .load false false 1 (.t 16)⟩,
  ⟨some 18, some (15, false), .lenL (.t 17)⟩,
  ⟨some 19, some (15, false), .bin .gtr (.t 18) (.c (.int .i64 6))⟩,
  ⟨some 20, none, .pick (.t 15) (.c (.bool true)) (.t 19)⟩,
  ⟨some 21, none, .mv false (.t 20)⟩,
  ⟨some 22, some (21, false), .fieldAddr 3 (.t 1)⟩,
  ⟨some 23, some (21, false), .load false false 1 (.t 22)⟩,
  ⟨some 24, some (21, false), .lenL (.t 23)⟩,
  ⟨some 25, some (21, false), .bin .gtr (.t 24) (.c (.int .i64 4))⟩,
  ⟨some 26, none, .pick (.t 21) (.c (.bool true)) (.t 25)⟩]
def act_Check_r2 : List LOper := [
  ⟨some 2, none, .mv false (.c (.int .i64 2))⟩]
def act_Check_r3 : List LOper := [
  ⟨some 27, none, .fieldAddr 2 (.t 1)⟩,
  ⟨some 28, none, .load false false 1 (.t 27)⟩,
  ⟨some 29, none, .lenL (.t 28)⟩,
  ⟨some 30, none, .fieldAddr 1 (.t 1)⟩,
  ⟨some 31, none, .load false false 1 (.t 30)⟩,
  ⟨some 32, none, .lenL (.t 31)⟩,
  ⟨some 33, none, .bin .neq (.t 29) (.t 32)⟩]
def act_Check_r4 : List LOper := [
  ⟨some 2, none, .mv false (.c (.int .i64 3))⟩]
def act_Check_r5 : List LOper := [
  ⟨some 34, none, .fieldAddr 1 (.t 1)⟩,
  ⟨some 35, none, .load false false 1 (.t 34)⟩,
  ⟨some 36, none, .lenL (.t 35)⟩,
  ⟨some 37, none, .mv false (.c (.int .i64 0))⟩]
def act_Check_r6 : List LOper := [
  ⟨some 38, none, .bin .lss (.t 37) (.t 36)⟩]
def act_Check_r7 : List LOper := [
  ⟨some 39, none, .mv false (.t 37)⟩,
  ⟨some 40, none, .indexAddr 1 (.t 35) (.t 37)⟩,
  ⟨some 41, none, .load false false 1 (.t 40)⟩,
  ⟨some 3, none, .mv false (.t 39)⟩,
  ⟨some 4, none, .mv false (.t 41)⟩]
def act_Check_r8 : List LOper := [
  ⟨some 42, none, .mv false (.t 4)⟩,
  ⟨some 43, none, .fieldAddr 0 (.t 1)⟩,
  ⟨some 44, none, .load false false 1 (.t 43)⟩,
  ⟨some 45, none, .bin .geq (.t 42) (.t 44)⟩,
  ⟨some 46, none, .mv false (.t 45)⟩,
  ⟨some 47, some (46, false), .mv false (.t 4)⟩,
  ⟨some 48, some (46, false), .fieldAddr 3 (.t 1)⟩,
  ⟨some 49, some (46, false), .load false false 1 (.t 48)⟩,
  ⟨some 50, some (46, false), .lenL (.t 49)⟩,
  ⟨some 51, some (46, false), .bin .sub (.t 50) (.c (.int .i64 1))⟩,
  ⟨some 52, some (46, false), .call false 44 [(.t 51)]⟩,
  ⟨some 53, some (46, false), .bin .lss (.t 47) (.t 52)⟩,
  ⟨some 54, none, .pick (.t 46) (.c (.bool true)) (.t 53)⟩]
def act_Check_r9 : List LOper := [
  ⟨some 2, none, .mv false (.c (.int .i64 1))⟩]
def act_Check_r10 : List LOper := [
  ⟨some 55, none, .mv false (.t 4)⟩,
  ⟨some 56, none, .bin .neq (.t 55) (.c (.int .i64 (-1)))⟩,
  ⟨some 57, none, .mv false (.t 56)⟩,
  ⟨some 58, some (57, true), .fieldAddr 1 (.t 1)⟩,
  ⟨some 59, some (57, true), .load false false 1 (.t 58)⟩,
  ⟨some 60, some (57, true), .mv false (.t 3)⟩,
  ⟨some 61, some (57, true), .slc 1 (.t 59) none (some (.t 60)) none⟩,
  ⟨some 62, some (57, true), .mv false (.t 4)⟩,
  ⟨some 63, some (57, true), .call false 66 [(.t 61), (.t 62)]⟩,
  ⟨some 64, none, .pick (.t 57) (.t 63) (.c (.bool false))⟩]
def act_Check_r11 : List LOper := [
  ⟨some 2, none, .mv false (.c (.int .i64 10))⟩]
def act_Check_r12 : List LOper := [
  ⟨some 65, none, .bin .add (.t 37) (.c (.int .i64 1))⟩,
  ⟨some 37, none, .mv false (.t 65)⟩]
def act_Check_b0 : LCode := (.seq (.ops act_Check_r6) (.seq (.cond (.t 38) .skip (.exit 0)) (.seq (.block 1 (.seq (.ops act_Check_r7) (.seq (.seq (.ops act_Check_r8) (.cond (.t 54) (.seq (.ops act_Check_r9) .ret) .skip)) (.seq (.ops act_Check_r10) (.cond (.t 64) (.seq (.ops act_Check_r11) .ret) .skip))))) (.ops act_Check_r12))))
def act_Check_r13 : List LOper := [
  ⟨some 66, none, .fieldAddr 3 (.t 1)⟩,
  ⟨some 67, none, .load false false 1 (.t 66)⟩,
  ⟨some 68, none, .lenL (.t 67)⟩,
  ⟨some 69, none, .mv false (.c (.int .i64 0))⟩]
def act_Check_r14 : List LOper := [
  ⟨some 70, none, .bin .lss (.t 69) (.t 68)⟩]
def act_Check_r15 : List LOper := [
  ⟨some 71, none, .mv false (.t 69)⟩,
  ⟨some 72, none, .indexAddr 1 (.t 67) (.t 69)⟩,
  ⟨some 73, none, .load false false 1 (.t 72)⟩,
  ⟨some 5, none, .mv false (.t 71)⟩,
  ⟨some 6, none, .mv false (.t 73)⟩]
def act_Check_r16 : List LOper := [
  ⟨some 74, none, .mv false (.t 6)⟩,
  ⟨some 75, none, .bin .lss (.t 74) (.c (.int .i64 (-1)))⟩,
  ⟨some 76, none, .mv false (.t 75)⟩,
  ⟨some 77, some (76, false), .mv false (.t 6)⟩,
  ⟨some 78, some (76, false), .fieldAddr 0 (.t 1)⟩,
  ⟨some 79, some (76, false), .load false false 1 (.t 78)⟩,
  ⟨some 80, some (76, false), .bin .geq (.t 77) (.t 79)⟩,
  ⟨some 81, some (76, false), .mv false (.t 80)⟩,
  ⟨some 82, some (81, true), .mv false (.t 6)⟩,
  ⟨some 83, some (81, true), .bin .lss (.t 82) (.c (.int .i64 8))⟩,
  ⟨some 84, some (76, false), .pick (.t 81) (.t 83) (.c (.bool false))⟩,
  ⟨some 85, none, .pick (.t 76) (.c (.bool true)) (.t 84)⟩,
  ⟨some 86, none, .mv false (.t 85)⟩,
  ⟨some 87, some (86, false), .mv false (.t 6)⟩,
  ⟨some 88, some (86, false), .fieldAddr 1 (.t 1)⟩,
  ⟨some 89, some (86, false), .load false false 1 (.t 88)⟩,
  ⟨some 90, some (86, false), .lenL (.t 89)⟩,
  ⟨some 91, some (86, false), .bin .add (.c (.int .i64 8)) (.t 90)⟩,
  ⟨some 92, some (86, false), .bin .geq (.t 87) (.t 91)⟩,
  ⟨some 93, none, .pick (.t 86) (.c (.bool true)) (.t 92)⟩]
def act_Check_r17 : List LOper := [
  ⟨some 2, none, .mv false (.c (.int .i64 1))⟩]
def act_Check_r18 : List LOper := [
  ⟨some 94, none, .mv false (.t 6)⟩,
  ⟨some 95, none, .bin .neq (.t 94) (.c (.int .i64 (-1)))⟩,
  ⟨some 96, none, .mv false (.t 95)⟩,
  ⟨some 97, some (96, true), .fieldAddr 3 (.t 1)⟩,
  ⟨some 98, some (96, true), .load false false 1 (.t 97)⟩,
  ⟨some 99, some (96, true), .mv false (.t 5)⟩,
  ⟨some 100, some (96, true), .slc 1 (.t 98) none (some (.t 99)) none⟩,
  ⟨some 101, some (96, true), .mv false (.t 6)⟩,
  ⟨some 102, some (96, true), .call false 66 [(.t 100), (.t 101)]⟩,
  ⟨some 103, none, .pick (.t 96) (.t 102) (.c (.bool false))⟩]
def act_Check_r19 : List LOper := [
  ⟨some 2, none, .mv false (.c (.int .i64 10))⟩]
def act_Check_r20 : List LOper := [
  ⟨some 104, none, .bin .add (.t 69) (.c (.int .i64 1))⟩,
  ⟨some 69, none, .mv false (.t 104)⟩]
def act_Check_b1 : LCode := (.seq (.ops act_Check_r14) (.seq (.cond (.t 70) .skip (.exit 2)) (.seq (.block 3 (.seq (.ops act_Check_r15) (.seq (.seq (.ops act_Check_r16) (.cond (.t 93) (.seq (.ops act_Check_r17) .ret) .skip)) (.seq (.ops act_Check_r18) (.cond (.t 103) (.seq (.ops act_Check_r19) .ret) .skip))))) (.ops act_Check_r20))))
def act_Check_r21 : List LOper := [
  ⟨some 2, none, .mv false (.c (.int .i64 0))⟩]
def act_Check_f : LFunc := ⟨105, 1, [.tmp 2], (.seq (.ops act_Check_r0) (.seq (.seq (.ops act_Check_r1) (.cond (.t 26) (.seq (.ops act_Check_r2) .ret) .skip)) (.seq (.seq (.ops act_Check_r3) (.cond (.t 33) (.seq (.ops act_Check_r4) .ret) .skip)) (.seq (.seq (.ops act_Check_r5) (.block 0 (.loop [1, 35, 36, 37] act_Check_b0))) (.seq (.seq (.ops act_Check_r13) (.block 2 (.loop [1, 67, 68, 69] act_Check_b1))) (.seq (.ops act_Check_r21) .ret))))))⟩
def act_Check_v : VFunc := ⟨act_Check_f, true, false, false⟩
theorem act_Check_ok : preFunc Try.prog ⟨[], [], []⟩ Try.f36 [[1, 35, 36, 37], [1, 67, 68, 69]] = some act_Check_f := by kernel_rfl

-- gantry/act.Facts
def act_Facts_r0 : List LOper := [
  ⟨some 1, none, .box (.t 0)⟩,
  ⟨some 2, none, .mv false (.c (.nilslice))⟩]
def act_Facts_r1 : List LOper := [
  ⟨some 9, none, .load false true 4 (.t 1)⟩,
  ⟨some 10, none, .call false 36 [(.t 9)]⟩,
  ⟨some 11, none, .bin .neq (.t 10) (.c (.int .i64 0))⟩]
def act_Facts_r2 : List LOper := [
  ⟨some 2, none, .mv false (.c (.nilslice))⟩]
def act_Facts_r3 : List LOper := [
  ⟨some 3, none, .mv true (.c (.nilslice))⟩]
def act_Facts_r4 : List LOper := [
  ⟨some 12, none, .fieldAddr 1 (.t 1)⟩,
  ⟨some 13, none, .load false false 1 (.t 12)⟩,
  ⟨some 14, none, .lenL (.t 13)⟩,
  ⟨some 15, none, .mv false (.c (.int .i64 0))⟩]
def act_Facts_r5 : List LOper := [
  ⟨some 16, none, .bin .lss (.t 15) (.t 14)⟩]
def act_Facts_r6 : List LOper := [
  ⟨some 17, none, .mv false (.t 15)⟩,
  ⟨some 18, none, .indexAddr 1 (.t 13) (.t 15)⟩,
  ⟨some 19, none, .load false false 1 (.t 18)⟩,
  ⟨some 4, none, .mv false (.t 17)⟩,
  ⟨some 5, none, .mv false (.t 19)⟩]
def act_Facts_r7 : List LOper := [
  ⟨some 21, none, .mv false (.t 5)⟩,
  ⟨some 22, none, .bin .geq (.t 21) (.c (.int .i64 0))⟩,
  ⟨some 20, none, .mv false (.t 22)⟩]
def act_Facts_r8 : List LOper := [
  ⟨some 23, none, .mv true (.t 3)⟩,
  ⟨some 24, none, .mv false (.t 4)⟩,
  ⟨some 25, none, .mv false (.t 5)⟩,
  ⟨some 26, none, .build [.int .i64 0, .int .i64 0, .int .i64 0] [(0, 1, (.c (.int .i64 1))), (1, 1, (.t 24)), (2, 1, (.t 25))]⟩,
  ⟨some 27, none, .bslice false 1 3 [.int .i64 0, .int .i64 0, .int .i64 0] [(0, 3, (.t 26))]⟩,
  ⟨some 28, none, .append true 3 24 (.t 23) (.t 27)⟩,
  ⟨some 3, none, .mv true (.t 28)⟩]
def act_Facts_r9 : List LOper := [
  ⟨some 30, none, .mv false (.t 5)⟩,
  ⟨some 31, none, .bin .lss (.t 30) (.c (.int .i64 (-1)))⟩,
  ⟨some 29, none, .mv false (.t 31)⟩]
def act_Facts_r10 : List LOper := [
  ⟨some 32, none, .mv true (.t 3)⟩,
  ⟨some 33, none, .mv false (.t 5)⟩,
  ⟨some 34, none, .bin .sub (.c (.int .i64 (-2))) (.t 33)⟩,
  ⟨some 35, none, .mv false (.t 4)⟩,
  ⟨some 36, none, .build [.int .i64 0, .int .i64 0, .int .i64 0] [(0, 1, (.c (.int .i64 2))), (1, 1, (.t 34)), (2, 1, (.t 35))]⟩,
  ⟨some 37, none, .bslice false 1 3 [.int .i64 0, .int .i64 0, .int .i64 0] [(0, 3, (.t 36))]⟩,
  ⟨some 38, none, .append true 3 24 (.t 32) (.t 37)⟩,
  ⟨some 3, none, .mv true (.t 38)⟩]
def act_Facts_r11 : List LOper := [
  ⟨some 39, none, .fieldAddr 2 (.t 1)⟩,
  ⟨some 40, none, .load false false 1 (.t 39)⟩,
  ⟨some 41, none, .mv false (.t 4)⟩,
  ⟨some 42, none, .indexAddr 1 (.t 40) (.t 41)⟩,
  ⟨some 43, none, .load false false 1 (.t 42)⟩]
def act_Facts_r12 : List LOper := [
  ⟨some 44, none, .mv true (.t 3)⟩,
  ⟨some 45, none, .mv false (.t 4)⟩,
  ⟨some 46, none, .build [.int .i64 0, .int .i64 0, .int .i64 0] [(0, 1, (.c (.int .i64 5))), (1, 1, (.t 45))]⟩,
  ⟨some 47, none, .bslice false 1 3 [.int .i64 0, .int .i64 0, .int .i64 0] [(0, 3, (.t 46))]⟩,
  ⟨some 48, none, .append true 3 24 (.t 44) (.t 47)⟩,
  ⟨some 3, none, .mv true (.t 48)⟩]
def act_Facts_r13 : List LOper := [
  ⟨some 49, none, .bin .add (.t 15) (.c (.int .i64 1))⟩,
  ⟨some 15, none, .mv false (.t 49)⟩]
def act_Facts_b0 : LCode := (.seq (.ops act_Facts_r5) (.seq (.cond (.t 16) .skip (.exit 0)) (.seq (.block 1 (.seq (.ops act_Facts_r6) (.seq (.block 2 (.seq (.ops act_Facts_r7) (.cond (.t 20) (.ops act_Facts_r8) (.seq (.ops act_Facts_r9) (.cond (.t 29) (.ops act_Facts_r10) .skip))))) (.seq (.ops act_Facts_r11) (.cond (.t 43) (.ops act_Facts_r12) .skip))))) (.ops act_Facts_r13))))
def act_Facts_r14 : List LOper := [
  ⟨some 50, none, .fieldAddr 0 (.t 1)⟩,
  ⟨some 51, none, .load false false 1 (.t 50)⟩,
  ⟨some 52, none, .mv false (.c (.int .i64 0))⟩]
def act_Facts_r15 : List LOper := [
  ⟨some 53, none, .bin .lss (.t 52) (.t 51)⟩]
def act_Facts_r16 : List LOper := [
  ⟨some 54, none, .mv false (.t 52)⟩,
  ⟨some 6, none, .mv false (.t 54)⟩]
def act_Facts_r17 : List LOper := [
  ⟨some 55, none, .load false true 4 (.t 1)⟩,
  ⟨some 56, none, .mv false (.t 6)⟩,
  ⟨some 57, none, .call false 67 [(.t 55), (.t 56)]⟩,
  ⟨some 58, none, .bin .lss (.t 57) (.c (.int .i64 0))⟩]
def act_Facts_r18 : List LOper := [
  ⟨some 59, none, .mv true (.t 3)⟩,
  ⟨some 60, none, .mv false (.t 6)⟩,
  ⟨some 61, none, .build [.int .i64 0, .int .i64 0, .int .i64 0] [(0, 1, (.c (.int .i64 4))), (1, 1, (.t 60))]⟩,
  ⟨some 62, none, .bslice false 1 3 [.int .i64 0, .int .i64 0, .int .i64 0] [(0, 3, (.t 61))]⟩,
  ⟨some 63, none, .append true 3 24 (.t 59) (.t 62)⟩,
  ⟨some 3, none, .mv true (.t 63)⟩]
def act_Facts_r19 : List LOper := [
  ⟨some 64, none, .bin .add (.t 52) (.c (.int .i64 1))⟩,
  ⟨some 52, none, .mv false (.t 64)⟩]
def act_Facts_b1 : LCode := (.seq (.ops act_Facts_r15) (.seq (.cond (.t 53) .skip (.exit 3)) (.seq (.block 4 (.seq (.ops act_Facts_r16) (.seq (.ops act_Facts_r17) (.cond (.t 58) (.ops act_Facts_r18) .skip)))) (.ops act_Facts_r19))))
def act_Facts_r20 : List LOper := [
  ⟨some 65, none, .fieldAddr 3 (.t 1)⟩,
  ⟨some 66, none, .load false false 1 (.t 65)⟩,
  ⟨some 67, none, .lenL (.t 66)⟩,
  ⟨some 68, none, .mv false (.c (.int .i64 0))⟩]
def act_Facts_r21 : List LOper := [
  ⟨some 69, none, .bin .lss (.t 68) (.t 67)⟩]
def act_Facts_r22 : List LOper := [
  ⟨some 70, none, .mv false (.t 68)⟩,
  ⟨some 71, none, .indexAddr 1 (.t 66) (.t 68)⟩,
  ⟨some 72, none, .load false false 1 (.t 71)⟩,
  ⟨some 7, none, .mv false (.t 70)⟩,
  ⟨some 8, none, .mv false (.t 72)⟩]
def act_Facts_r23 : List LOper := [
  ⟨some 73, none, .load false true 4 (.t 1)⟩,
  ⟨some 74, none, .mv false (.t 7)⟩,
  ⟨some 75, none, .call false 11 [(.t 73), (.t 74)]⟩,
  ⟨some 76, none, .bin .lss (.t 75) (.c (.int .i64 0))⟩]
def act_Facts_r24 : List LOper := [
  ⟨some 77, none, .mv true (.t 3)⟩,
  ⟨some 78, none, .mv false (.t 7)⟩,
  ⟨some 79, none, .build [.int .i64 0, .int .i64 0, .int .i64 0] [(0, 1, (.c (.int .i64 3))), (1, 1, (.t 78))]⟩,
  ⟨some 80, none, .bslice false 1 3 [.int .i64 0, .int .i64 0, .int .i64 0] [(0, 3, (.t 79))]⟩,
  ⟨some 81, none, .append true 3 24 (.t 77) (.t 80)⟩,
  ⟨some 3, none, .mv true (.t 81)⟩]
def act_Facts_r25 : List LOper := [
  ⟨some 82, none, .mv false (.t 8)⟩,
  ⟨some 83, none, .bin .neq (.t 82) (.c (.int .i64 (-1)))⟩]
def act_Facts_r26 : List LOper := [
  ⟨some 84, none, .mv true (.t 3)⟩,
  ⟨some 85, none, .mv false (.t 7)⟩,
  ⟨some 86, none, .mv false (.t 8)⟩,
  ⟨some 87, none, .build [.int .i64 0, .int .i64 0, .int .i64 0] [(0, 1, (.c (.int .i64 6))), (1, 1, (.t 85)), (2, 1, (.t 86))]⟩,
  ⟨some 88, none, .bslice false 1 3 [.int .i64 0, .int .i64 0, .int .i64 0] [(0, 3, (.t 87))]⟩,
  ⟨some 89, none, .append true 3 24 (.t 84) (.t 88)⟩,
  ⟨some 3, none, .mv true (.t 89)⟩]
def act_Facts_r27 : List LOper := [
  ⟨some 90, none, .bin .add (.t 68) (.c (.int .i64 1))⟩,
  ⟨some 68, none, .mv false (.t 90)⟩]
def act_Facts_b2 : LCode := (.seq (.ops act_Facts_r21) (.seq (.cond (.t 69) .skip (.exit 5)) (.seq (.block 6 (.seq (.ops act_Facts_r22) (.seq (.seq (.ops act_Facts_r23) (.cond (.t 76) (.ops act_Facts_r24) .skip)) (.seq (.ops act_Facts_r25) (.cond (.t 83) (.ops act_Facts_r26) .skip))))) (.ops act_Facts_r27))))
def act_Facts_r28 : List LOper := [
  ⟨some 91, none, .mv false (.t 3)⟩,
  ⟨some 92, none, .call false 17 [(.t 91)]⟩,
  ⟨some 2, none, .mv false (.t 92)⟩]
def act_Facts_f : LFunc := ⟨93, 1, [.tmp 2], (.seq (.ops act_Facts_r0) (.seq (.seq (.ops act_Facts_r1) (.cond (.t 11) (.seq (.ops act_Facts_r2) .ret) .skip)) (.seq (.ops act_Facts_r3) (.seq (.seq (.ops act_Facts_r4) (.block 0 (.loop [1, 3, 13, 14, 15] act_Facts_b0))) (.seq (.seq (.ops act_Facts_r14) (.block 3 (.loop [1, 3, 51, 52] act_Facts_b1))) (.seq (.seq (.ops act_Facts_r20) (.block 5 (.loop [1, 3, 66, 67, 68] act_Facts_b2))) (.seq (.ops act_Facts_r28) .ret)))))))⟩
def act_Facts_v : VFunc := ⟨act_Facts_f, true, false, false⟩
theorem act_Facts_ok : preFunc Try.prog ⟨[3, 23, 28, 32, 38, 44, 48, 59, 63, 77, 81, 84, 89], [], []⟩ Try.f37 [[1, 3, 13, 14, 15], [1, 3, 51, 52], [1, 3, 66, 67, 68]] = some act_Facts_f := by kernel_rfl

-- gantry/act.Do
def act_Do_r0 : List LOper := [
  ⟨some 2, none, .box (.t 0)⟩,
  ⟨some 3, none, .box (.t 1)⟩,
  ⟨some 4, none, .alloc [.int .i64 0, .nilslice, .nilslice, .nilslice]⟩,
  ⟨some 5, none, .mv false (.c (.int .i64 0))⟩]
def act_Do_r1 : List LOper := [
  ⟨some 9, none, .load false true 4 (.t 2)⟩,
  ⟨some 10, none, .load false true 5 (.t 3)⟩,
  ⟨some 11, none, .call false 33 [(.t 9), (.t 10)]⟩,
  ⟨some 6, none, .mv false (.t 11)⟩]
def act_Do_r2 : List LOper := [
  ⟨some 12, none, .mv false (.t 6)⟩,
  ⟨some 13, none, .bin .neq (.t 12) (.c (.int .i64 0))⟩]
def act_Do_r3 : List LOper := [
  ⟨some 14, none, .build [.int .i64 0, .nilslice, .nilslice, .nilslice] []⟩,
  ⟨some 15, none, .mv false (.t 6)⟩,
  ⟨none, none, .store 4 (.t 4) (.t 14)⟩,
  ⟨some 5, none, .mv false (.t 15)⟩]
def act_Do_r4 : List LOper := [
  ⟨some 16, none, .load false true 4 (.t 2)⟩,
  ⟨some 17, none, .call false 14 [(.t 16)]⟩,
  ⟨some 7, none, .alloc [.int .i64 0, .nilslice, .nilslice, .nilslice]⟩,
  ⟨none, none, .store 4 (.t 7) (.t 17)⟩]
def act_Do_r5 : List LOper := [
  ⟨some 18, none, .fieldAddr 0 (.t 3)⟩,
  ⟨some 19, none, .load false false 1 (.t 18)⟩]
def act_Do_r6 : List LOper := [
  ⟨some 21, none, .bin .eql (.t 19) (.c (.int .i64 0))⟩,
  ⟨some 20, none, .mv false (.t 21)⟩]
def act_Do_r7 : List LOper := [
  ⟨some 22, none, .fieldAddr 3 (.t 7)⟩,
  ⟨some 23, none, .load false false 1 (.t 22)⟩,
  ⟨some 24, none, .fieldAddr 1 (.t 3)⟩,
  ⟨some 25, none, .load false false 1 (.t 24)⟩,
  ⟨some 26, none, .load false true 4 (.t 2)⟩,
  ⟨some 27, none, .load false true 5 (.t 3)⟩,
  ⟨some 28, none, .call true 68 [(.t 26), (.t 27)]⟩,
  ⟨some 29, none, .indexAddr 1 (.t 23) (.t 25)⟩,
  ⟨none, none, .store 1 (.t 29) (.t 28)⟩]
theorem act_Do_r7_d : drawC [0, 1, 0, 4, 0, 0, 48, 127, 255] [
  ⟨some 22, none, .fieldAddr 3 (.t 7)⟩,
  ⟨some 23, none, .load false false 1 (.t 22)⟩,
  ⟨some 24, none, .fieldAddr 1 (.t 3)⟩,
  ⟨some 25, none, .load false false 1 (.t 24)⟩,
  ⟨some 26, none, .load false true 4 (.t 2)⟩,
  ⟨some 27, none, .load false true 5 (.t 3)⟩,
  ⟨some 28, none, .call true 68 [(.t 26), (.t 27)]⟩,
  ⟨some 29, none, .indexAddr 1 (.t 23) (.t 25)⟩,
  ⟨none, none, .store 1 (.t 29) (.t 28)⟩] = true := by kernel_rfl
def act_Do_r8 : List LOper := [
  ⟨some 31, none, .bin .eql (.t 19) (.c (.int .i64 1))⟩,
  ⟨some 30, none, .mv false (.t 31)⟩]
def act_Do_r9 : List LOper := [
  ⟨some 32, none, .fieldAddr 1 (.t 7)⟩,
  ⟨some 33, none, .load false false 1 (.t 32)⟩,
  ⟨some 34, none, .fieldAddr 2 (.t 3)⟩,
  ⟨some 35, none, .load false false 1 (.t 34)⟩,
  ⟨some 36, none, .fieldAddr 1 (.t 3)⟩,
  ⟨some 37, none, .load false false 1 (.t 36)⟩,
  ⟨some 38, none, .call true 44 [(.t 37)]⟩,
  ⟨some 39, none, .indexAddr 1 (.t 33) (.t 35)⟩,
  ⟨none, none, .store 1 (.t 39) (.t 38)⟩]
theorem act_Do_r9_d : drawC [0, 1, 0, 4, 0, 16, 48, 127, 255] [
  ⟨some 32, none, .fieldAddr 1 (.t 7)⟩,
  ⟨some 33, none, .load false false 1 (.t 32)⟩,
  ⟨some 34, none, .fieldAddr 2 (.t 3)⟩,
  ⟨some 35, none, .load false false 1 (.t 34)⟩,
  ⟨some 36, none, .fieldAddr 1 (.t 3)⟩,
  ⟨some 37, none, .load false false 1 (.t 36)⟩,
  ⟨some 38, none, .call true 44 [(.t 37)]⟩,
  ⟨some 39, none, .indexAddr 1 (.t 33) (.t 35)⟩,
  ⟨none, none, .store 1 (.t 39) (.t 38)⟩] = true := by kernel_rfl
def act_Do_r10 : List LOper := [
  ⟨some 41, none, .bin .eql (.t 19) (.c (.int .i64 3))⟩,
  ⟨some 40, none, .mv false (.t 41)⟩]
def act_Do_r11 : List LOper := [
  ⟨some 42, none, .fieldAddr 2 (.t 7)⟩,
  ⟨some 43, none, .load false false 1 (.t 42)⟩,
  ⟨some 44, none, .fieldAddr 2 (.t 3)⟩,
  ⟨some 45, none, .load false false 1 (.t 44)⟩,
  ⟨some 46, none, .indexAddr 1 (.t 43) (.t 45)⟩,
  ⟨none, none, .store 1 (.t 46) (.c (.bool true))⟩]
def act_Do_r12 : List LOper := [
  ⟨some 48, none, .bin .eql (.t 19) (.c (.int .i64 2))⟩,
  ⟨some 47, none, .mv false (.t 48)⟩]
def act_Do_r13 : List LOper := [
  ⟨some 49, none, .load false true 4 (.t 2)⟩,
  ⟨some 50, none, .fieldAddr 1 (.t 3)⟩,
  ⟨some 51, none, .load false false 1 (.t 50)⟩,
  ⟨some 52, none, .call false 11 [(.t 49), (.t 51)]⟩,
  ⟨some 8, none, .mv false (.t 52)⟩]
def act_Do_r14 : List LOper := [
  ⟨some 53, none, .fieldAddr 1 (.t 7)⟩,
  ⟨some 54, none, .load false false 1 (.t 53)⟩,
  ⟨some 55, none, .mv false (.t 8)⟩,
  ⟨some 56, none, .fieldAddr 2 (.t 7)⟩,
  ⟨some 57, none, .load false false 1 (.t 56)⟩,
  ⟨some 58, none, .mv false (.t 8)⟩,
  ⟨some 59, none, .fieldAddr 3 (.t 3)⟩,
  ⟨some 60, none, .load false false 1 (.t 59)⟩,
  ⟨some 61, none, .indexAddr 1 (.t 54) (.t 55)⟩,
  ⟨none, none, .store 1 (.t 61) (.t 60)⟩,
  ⟨some 62, none, .indexAddr 1 (.t 57) (.t 58)⟩,
  ⟨none, none, .store 1 (.t 62) (.c (.bool false))⟩]
theorem act_Do_r14_d : drawC [0, 1, 0, 0, 8, 0, 0, 64, 199, 455, 1023, 2047] [
  ⟨some 53, none, .fieldAddr 1 (.t 7)⟩,
  ⟨some 54, none, .load false false 1 (.t 53)⟩,
  ⟨some 55, none, .mv false (.t 8)⟩,
  ⟨some 56, none, .fieldAddr 2 (.t 7)⟩,
  ⟨some 57, none, .load false false 1 (.t 56)⟩,
  ⟨some 58, none, .mv false (.t 8)⟩,
  ⟨some 59, none, .fieldAddr 3 (.t 3)⟩,
  ⟨some 60, none, .load false false 1 (.t 59)⟩,
  ⟨some 61, none, .indexAddr 1 (.t 54) (.t 55)⟩,
  ⟨none, none, .store 1 (.t 61) (.t 60)⟩,
  ⟨some 62, none, .indexAddr 1 (.t 57) (.t 58)⟩,
  ⟨none, none, .store 1 (.t 62) (.c (.bool false))⟩] = false ∧ drawW [0, 1, 0, 0, 8, 0, 0, 64, 199, 455, 1023, 2047] [
  ⟨some 53, none, .fieldAddr 1 (.t 7)⟩,
  ⟨some 54, none, .load false false 1 (.t 53)⟩,
  ⟨some 55, none, .mv false (.t 8)⟩,
  ⟨some 56, none, .fieldAddr 2 (.t 7)⟩,
  ⟨some 57, none, .load false false 1 (.t 56)⟩,
  ⟨some 58, none, .mv false (.t 8)⟩,
  ⟨some 59, none, .fieldAddr 3 (.t 3)⟩,
  ⟨some 60, none, .load false false 1 (.t 59)⟩,
  ⟨some 61, none, .indexAddr 1 (.t 54) (.t 55)⟩,
  ⟨none, none, .store 1 (.t 61) (.t 60)⟩,
  ⟨some 62, none, .indexAddr 1 (.t 57) (.t 58)⟩,
  ⟨none, none, .store 1 (.t 62) (.c (.bool false))⟩] = true := ⟨by kernel_rfl, by kernel_rfl⟩
def act_Do_r15 : List LOper := [
  ⟨some 63, none, .load false true 4 (.t 7)⟩,
  ⟨none, none, .store 4 (.t 4) (.t 63)⟩,
  ⟨some 5, none, .mv false (.c (.int .i64 0))⟩]
def act_Do_f : LFunc := ⟨64, 2, [.cell 4 true 4, .tmp 5], (.seq (.ops act_Do_r0) (.seq (.seq (.ops act_Do_r1) (.seq (.ops act_Do_r2) (.cond (.t 13) (.seq (.ops act_Do_r3) .ret) .skip))) (.seq (.ops act_Do_r4) (.seq (.seq (.ops act_Do_r5) (.block 0 (.seq (.ops act_Do_r6) (.cond (.t 20) (.dops [0, 1, 0, 4, 0, 0, 48, 127, 255] act_Do_r7) (.seq (.ops act_Do_r8) (.cond (.t 30) (.dops [0, 1, 0, 4, 0, 16, 48, 127, 255] act_Do_r9) (.seq (.ops act_Do_r10) (.cond (.t 40) (.ops act_Do_r11) (.seq (.ops act_Do_r12) (.cond (.t 47) (.seq (.ops act_Do_r13) (.dops [0, 1, 0, 0, 8, 0, 0, 64, 199, 455, 1023, 2047] act_Do_r14)) .skip)))))))))) (.seq (.ops act_Do_r15) .ret)))))⟩
def act_Do_v : VFunc := ⟨act_Do_f, true, false, false⟩
theorem act_Do_ok : preFunc Try.prog ⟨[], [], [28, 38]⟩ Try.f38 [] = some act_Do_f := by kernel_rfl

-- gantry/gantkeep4.pick
def gantkeep4_pick_r0 : List LOper := [
  ⟨some 4, none, .alloc [.int .i64 0, .int .i64 0, .int .i64 0, .int .i64 0, .int .i64 0]⟩]
def gantkeep4_pick_r1 : List LOper := [
  ⟨some 5, none, .mv false (.t 0)⟩,
  ⟨some 6, none, .lenL (.t 5)⟩,
  ⟨some 7, none, .bin .eql (.t 6) (.c (.int .i64 0))⟩]
def gantkeep4_pick_r2 : List LOper := [
  ⟨some 8, none, .build [.int .i64 0, .int .i64 0, .int .i64 0, .int .i64 0, .int .i64 0] []⟩,
  ⟨none, none, .store 5 (.t 4) (.t 8)⟩]
def gantkeep4_pick_r3 : List LOper := [
  ⟨some 9, none, .mv false (.t 0)⟩,
  ⟨some 10, none, .mv false (.t 1)⟩,
  ⟨some 11, none, .mv false (.t 0)⟩,
  ⟨some 12, none, .lenL (.t 11)⟩,
  ⟨some 13, none, .call false 30 [(.t 10), (.t 12)]⟩,
  ⟨some 14, none, .indexAddr 5 (.t 9) (.t 13)⟩,
  ⟨some 15, none, .load false true 5 (.t 14)⟩,
  ⟨none, none, .store 5 (.t 4) (.t 15)⟩]
def gantkeep4_pick_f : LFunc := ⟨16, 2, [.cell 4 true 5], (.seq (.ops gantkeep4_pick_r0) (.seq (.seq (.ops gantkeep4_pick_r1) (.cond (.t 7) (.seq (.ops gantkeep4_pick_r2) .ret) .skip)) (.seq (.ops gantkeep4_pick_r3) .ret)))⟩
def gantkeep4_pick_v : VFunc := ⟨gantkeep4_pick_f, true, false, false⟩
theorem gantkeep4_pick_ok : preFunc Try.prog ⟨[], [], []⟩ Try.f39 [] = some gantkeep4_pick_f := by kernel_rfl

-- (*gantry/gantmake.Stream).Next
def gantmake_Stream_Next_r0 : List LOper := [
  ⟨some 4, none, .mv false (.c (.int .i64 0))⟩]
def gantmake_Stream_Next_r1 : List LOper := [
  ⟨some 6, none, .mv false (.t 0)⟩,
  ⟨some 7, none, .nilchk (.t 6)⟩,
  ⟨some 8, none, .fieldAddr 0 (.t 7)⟩,
  ⟨some 9, none, .load false false 1 (.t 8)⟩,
  ⟨some 10, none, .lenL (.t 9)⟩,
  ⟨some 11, none, .bin .eql (.t 10) (.c (.int .i64 0))⟩,
  ⟨some 12, none, .mv false (.t 11)⟩,
  ⟨some 13, some (12, false), .mv false (.t 1)⟩,
  ⟨some 14, some (12, false), .bin .lss (.t 13) (.c (.int .i64 1))⟩,
  ⟨some 15, none, .pick (.t 12) (.c (.bool true)) (.t 14)⟩]
def gantmake_Stream_Next_r2 : List LOper := [
  ⟨some 4, none, .mv false (.c (.int .i64 0))⟩]
def gantmake_Stream_Next_r3 : List LOper := [
  ⟨some 16, none, .mv false (.t 0)⟩,
  ⟨some 17, none, .nilchk (.t 16)⟩,
  ⟨some 18, none, .fieldAddr 0 (.t 17)⟩,
  ⟨some 19, none, .load false false 1 (.t 18)⟩,
  ⟨some 20, none, .indexAddr 1 (.t 19) (.c (.int .i64 0))⟩,
  ⟨some 21, none, .load false false 1 (.t 20)⟩,
  ⟨some 5, none, .mv false (.t 21)⟩]
def gantmake_Stream_Next_r4 : List LOper := [
  ⟨some 22, none, .mv false (.t 0)⟩,
  ⟨some 23, none, .mv false (.t 0)⟩,
  ⟨some 24, none, .nilchk (.t 23)⟩,
  ⟨some 25, none, .fieldAddr 0 (.t 24)⟩,
  ⟨some 26, none, .load false false 1 (.t 25)⟩,
  ⟨some 27, none, .slc 1 (.t 26) (some (.c (.int .i64 1))) none none⟩,
  ⟨some 28, none, .nilchk (.t 22)⟩,
  ⟨some 29, none, .fieldAddr 0 (.t 28)⟩,
  ⟨none, none, .store 1 (.t 29) (.t 27)⟩]
def gantmake_Stream_Next_r5 : List LOper := [
  ⟨some 30, none, .mv false (.t 5)⟩,
  ⟨some 31, none, .mv false (.t 1)⟩,
  ⟨some 32, none, .call false 30 [(.t 30), (.t 31)]⟩,
  ⟨some 4, none, .mv false (.t 32)⟩]
def gantmake_Stream_Next_f : LFunc := ⟨33, 2, [.tmp 4], (.seq (.ops gantmake_Stream_Next_r0) (.seq (.seq (.ops gantmake_Stream_Next_r1) (.cond (.t 15) (.seq (.ops gantmake_Stream_Next_r2) .ret) .skip)) (.seq (.ops gantmake_Stream_Next_r3) (.seq (.ops gantmake_Stream_Next_r4) (.seq (.ops gantmake_Stream_Next_r5) .ret)))))⟩
def gantmake_Stream_Next_v : VFunc := ⟨gantmake_Stream_Next_f, false, false, false⟩
theorem gantmake_Stream_Next_ok : preFunc Try.prog ⟨[], [], []⟩ Try.f41 [] = some gantmake_Stream_Next_f := by kernel_rfl

-- gantry/gantmake.Of
def gantmake_Of_r0 : List LOper := [
  ⟨some 4, none, .alloc [.bool false, .str [], .str []]⟩]
def gantmake_Of_r1 : List LOper := [
  ⟨some 7, none, .mv false (.t 0)⟩,
  ⟨some 8, none, .mv false (.t 0)⟩,
  ⟨some 9, none, .un .neg (.t 8)⟩,
  ⟨some 10, none, .max2 [(.t 7), (.t 9)]⟩,
  ⟨some 11, none, .mv false (.t 1)⟩,
  ⟨some 5, none, .mv false (.t 10)⟩,
  ⟨some 6, none, .mv false (.t 11)⟩]
def gantmake_Of_r2 : List LOper := [
  ⟨some 12, none, .mv false (.t 6)⟩,
  ⟨some 13, none, .bin .gtr (.t 12) (.c (.int .i64 0))⟩]
def gantmake_Of_r3 : List LOper := [
  ⟨some 14, none, .mv false (.t 6)⟩,
  ⟨some 15, none, .mv false (.t 5)⟩,
  ⟨some 16, none, .mv false (.t 6)⟩,
  ⟨some 17, none, .bin .rem (.t 15) (.t 16)⟩,
  ⟨some 5, none, .mv false (.t 14)⟩,
  ⟨some 6, none, .mv false (.t 17)⟩]
theorem gantmake_Of_r3_d : drawC [0, 0, 0, 6, 3, 31] [
  ⟨some 14, none, .mv false (.t 6)⟩,
  ⟨some 15, none, .mv false (.t 5)⟩,
  ⟨some 16, none, .mv false (.t 6)⟩,
  ⟨some 17, none, .bin .rem (.t 15) (.t 16)⟩,
  ⟨some 5, none, .mv false (.t 14)⟩,
  ⟨some 6, none, .mv false (.t 17)⟩] = true := by kernel_rfl
def gantmake_Of_b0 : LCode := (.seq (.seq (.ops gantmake_Of_r2) (.cond (.t 13) .skip (.exit 0))) (.block 1 (.dops [0, 0, 0, 6, 3, 31] gantmake_Of_r3)))
def gantmake_Of_r4 : List LOper := [
  ⟨some 18, none, .mv false (.t 0)⟩,
  ⟨some 19, none, .mv false (.t 5)⟩,
  ⟨some 20, none, .bin .quo (.t 18) (.t 19)⟩,
  ⟨some 21, none, .mv false (.t 1)⟩,
  ⟨some 22, none, .mv false (.t 5)⟩,
  ⟨some 23, none, .bin .quo (.t 21) (.t 22)⟩,
  ⟨some 0, none, .mv false (.t 20)⟩,
  ⟨some 1, none, .mv false (.t 23)⟩]
theorem gantmake_Of_r4_d : drawC [0, 0, 3, 0, 0, 24, 7, 127] [
  ⟨some 18, none, .mv false (.t 0)⟩,
  ⟨some 19, none, .mv false (.t 5)⟩,
  ⟨some 20, none, .bin .quo (.t 18) (.t 19)⟩,
  ⟨some 21, none, .mv false (.t 1)⟩,
  ⟨some 22, none, .mv false (.t 5)⟩,
  ⟨some 23, none, .bin .quo (.t 21) (.t 22)⟩,
  ⟨some 0, none, .mv false (.t 20)⟩,
  ⟨some 1, none, .mv false (.t 23)⟩] = true := by kernel_rfl
def gantmake_Of_r5 : List LOper := [
  ⟨some 24, none, .mv false (.t 0)⟩,
  ⟨some 25, none, .bin .lss (.t 24) (.c (.int .i64 0))⟩,
  ⟨some 26, none, .mv false (.t 0)⟩,
  ⟨some 27, none, .mv false (.t 0)⟩,
  ⟨some 28, none, .un .neg (.t 27)⟩,
  ⟨some 29, none, .max2 [(.t 26), (.t 28)]⟩,
  ⟨some 30, none, .call false 70 [(.t 29)]⟩,
  ⟨some 31, none, .mv false (.t 1)⟩,
  ⟨some 32, none, .call false 70 [(.t 31)]⟩,
  ⟨some 33, none, .build [.bool false, .str [], .str []] [(0, 1, (.t 25)), (1, 1, (.t 30)), (2, 1, (.t 32))]⟩,
  ⟨none, none, .store 3 (.t 4) (.t 33)⟩]
def gantmake_Of_f : LFunc := ⟨34, 2, [.cell 4 true 3], (.seq (.ops gantmake_Of_r0) (.seq (.ops gantmake_Of_r1) (.seq (.block 0 (.loop [0, 1, 4, 5, 6] gantmake_Of_b0)) (.seq (.dops [0, 0, 3, 0, 0, 24, 7, 127] gantmake_Of_r4) (.seq (.ops gantmake_Of_r5) .ret)))))⟩
def gantmake_Of_v : VFunc := ⟨gantmake_Of_f, true, false, false⟩
theorem gantmake_Of_ok : preFunc Try.prog ⟨[], [], []⟩ Try.f42 [[0, 1, 4, 5, 6]] = some gantmake_Of_f := by kernel_rfl

-- slices.Index[[]int,int]
def slices_Index_intint_r0 : List LOper := [
  ⟨some 4, none, .mv false (.c (.int .i64 0))⟩]
def slices_Index_intint_r1 : List LOper := [
  ⟨some 6, none, .mv false (.t 0)⟩,
  ⟨some 7, none, .lenL (.t 6)⟩,
  ⟨some 8, none, .mv false (.c (.int .i64 0))⟩]
def slices_Index_intint_r2 : List LOper := [
  ⟨some 9, none, .bin .lss (.t 8) (.t 7)⟩]
def slices_Index_intint_r3 : List LOper := [
  ⟨some 10, none, .mv false (.t 8)⟩,
  ⟨some 5, none, .mv false (.t 10)⟩]
def slices_Index_intint_r4 : List LOper := [
  ⟨some 11, none, .mv false (.t 1)⟩,
  ⟨some 12, none, .mv false (.t 0)⟩,
  ⟨some 13, none, .mv false (.t 5)⟩,
  ⟨some 14, none, .indexAddr 1 (.t 12) (.t 13)⟩,
  ⟨some 15, none, .load false false 1 (.t 14)⟩,
  ⟨some 16, none, .bin .eql (.t 11) (.t 15)⟩]
def slices_Index_intint_r5 : List LOper := [
  ⟨some 17, none, .mv false (.t 5)⟩,
  ⟨some 4, none, .mv false (.t 17)⟩]
def slices_Index_intint_r6 : List LOper := [
  ⟨some 18, none, .bin .add (.t 8) (.c (.int .i64 1))⟩,
  ⟨some 8, none, .mv false (.t 18)⟩]
def slices_Index_intint_b0 : LCode := (.seq (.ops slices_Index_intint_r2) (.seq (.cond (.t 9) .skip (.exit 0)) (.seq (.block 1 (.seq (.ops slices_Index_intint_r3) (.seq (.ops slices_Index_intint_r4) (.cond (.t 16) (.seq (.ops slices_Index_intint_r5) .ret) .skip)))) (.ops slices_Index_intint_r6))))
def slices_Index_intint_r7 : List LOper := [
  ⟨some 4, none, .mv false (.c (.int .i64 (-1)))⟩]
def slices_Index_intint_f : LFunc := ⟨19, 2, [.tmp 4], (.seq (.ops slices_Index_intint_r0) (.seq (.seq (.ops slices_Index_intint_r1) (.block 0 (.loop [0, 1, 7, 8] slices_Index_intint_b0))) (.seq (.ops slices_Index_intint_r7) .ret)))⟩
def slices_Index_intint_v : VFunc := ⟨slices_Index_intint_f, true, false, false⟩
theorem slices_Index_intint_ok : preFunc Try.prog ⟨[], [], []⟩ Try.f43 [[0, 1, 7, 8]] = some slices_Index_intint_f := by kernel_rfl

-- gantry/act.Held
def act_Held_r0 : List LOper := [
  ⟨some 2, none, .mv false (.c (.int .i64 0))⟩]
def act_Held_r1 : List LOper := [
  ⟨some 3, none, .mv false (.t 0)⟩,
  ⟨some 4, none, .bin .sub (.c (.int .i64 (-2))) (.t 3)⟩,
  ⟨some 2, none, .mv false (.t 4)⟩]
def act_Held_f : LFunc := ⟨5, 1, [.tmp 2], (.seq (.ops act_Held_r0) (.seq (.ops act_Held_r1) .ret))⟩
def act_Held_v : VFunc := ⟨act_Held_f, true, false, false⟩
theorem act_Held_ok : preFunc Try.prog ⟨[], [], []⟩ Try.f44 [] = some act_Held_f := by kernel_rfl

-- slices.Clone[[]int,int]
def slices_Clone_intint_r0 : List LOper := [
  ⟨some 2, none, .mv false (.c (.nilslice))⟩]
def slices_Clone_intint_r1 : List LOper := [
  ⟨some 3, none, .mv false (.t 0)⟩,
  ⟨some 4, none, .eqv false .slice (.t 3) (.c (.nilslice))⟩]
def slices_Clone_intint_r2 : List LOper := [
  ⟨some 2, none, .mv false (.c (.nilslice))⟩]
def slices_Clone_intint_r3 : List LOper := [
  ⟨some 5, none, .bslice true 0 1 [] []⟩,
  ⟨some 6, none, .mv false (.t 0)⟩,
  ⟨some 7, none, .append false 1 8 (.t 5) (.t 6)⟩,
  ⟨some 2, none, .mv false (.t 7)⟩]
def slices_Clone_intint_f : LFunc := ⟨8, 1, [.tmp 2], (.seq (.ops slices_Clone_intint_r0) (.seq (.seq (.ops slices_Clone_intint_r1) (.cond (.t 4) (.seq (.ops slices_Clone_intint_r2) .ret) .skip)) (.seq (.ops slices_Clone_intint_r3) .ret)))⟩
def slices_Clone_intint_v : VFunc := ⟨(cloneM false 1 8), false, false, true⟩
theorem slices_Clone_intint_ok : preFunc Try.prog ⟨[], [5, 7], []⟩ Try.f47 [] = some slices_Clone_intint_f := by kernel_rfl

-- slices.Clone[[]bool,bool]
def slices_Clone_boolbool_r0 : List LOper := [
  ⟨some 2, none, .mv false (.c (.nilslice))⟩]
def slices_Clone_boolbool_r1 : List LOper := [
  ⟨some 3, none, .mv false (.t 0)⟩,
  ⟨some 4, none, .eqv false .slice (.t 3) (.c (.nilslice))⟩]
def slices_Clone_boolbool_r2 : List LOper := [
  ⟨some 2, none, .mv false (.c (.nilslice))⟩]
def slices_Clone_boolbool_r3 : List LOper := [
  ⟨some 5, none, .bslice true 0 1 [] []⟩,
  ⟨some 6, none, .mv false (.t 0)⟩,
  ⟨some 7, none, .append false 1 1 (.t 5) (.t 6)⟩,
  ⟨some 2, none, .mv false (.t 7)⟩]
def slices_Clone_boolbool_f : LFunc := ⟨8, 1, [.tmp 2], (.seq (.ops slices_Clone_boolbool_r0) (.seq (.seq (.ops slices_Clone_boolbool_r1) (.cond (.t 4) (.seq (.ops slices_Clone_boolbool_r2) .ret) .skip)) (.seq (.ops slices_Clone_boolbool_r3) .ret)))⟩
def slices_Clone_boolbool_v : VFunc := ⟨(cloneM false 1 1), false, false, true⟩
theorem slices_Clone_boolbool_ok : preFunc Try.prog ⟨[], [5, 7], []⟩ Try.f48 [] = some slices_Clone_boolbool_f := by kernel_rfl

-- slices.Equal[[]int,int]
def slices_Equal_intint_r0 : List LOper := [
  ⟨some 4, none, .mv false (.c (.bool false))⟩]
def slices_Equal_intint_r1 : List LOper := [
  ⟨some 6, none, .mv false (.t 0)⟩,
  ⟨some 7, none, .lenL (.t 6)⟩,
  ⟨some 8, none, .mv false (.t 1)⟩,
  ⟨some 9, none, .lenL (.t 8)⟩,
  ⟨some 10, none, .bin .neq (.t 7) (.t 9)⟩]
def slices_Equal_intint_r2 : List LOper := [
  ⟨some 4, none, .mv false (.c (.bool false))⟩]
def slices_Equal_intint_r3 : List LOper := [
  ⟨some 11, none, .mv false (.t 0)⟩,
  ⟨some 12, none, .lenL (.t 11)⟩,
  ⟨some 13, none, .mv false (.c (.int .i64 0))⟩]
def slices_Equal_intint_r4 : List LOper := [
  ⟨some 14, none, .bin .lss (.t 13) (.t 12)⟩]
def slices_Equal_intint_r5 : List LOper := [
  ⟨some 15, none, .mv false (.t 13)⟩,
  ⟨some 5, none, .mv false (.t 15)⟩]
def slices_Equal_intint_r6 : List LOper := [
  ⟨some 16, none, .mv false (.t 0)⟩,
  ⟨some 17, none, .mv false (.t 5)⟩,
  ⟨some 18, none, .indexAddr 1 (.t 16) (.t 17)⟩,
  ⟨some 19, none, .load false false 1 (.t 18)⟩,
  ⟨some 20, none, .mv false (.t 1)⟩,
  ⟨some 21, none, .mv false (.t 5)⟩,
  ⟨some 22, none, .indexAddr 1 (.t 20) (.t 21)⟩,
  ⟨some 23, none, .load false false 1 (.t 22)⟩,
  ⟨some 24, none, .bin .neq (.t 19) (.t 23)⟩]
theorem slices_Equal_intint_r6_d : drawC [0, 0, 3, 7, 0, 0, 48, 112, 255] [
  ⟨some 16, none, .mv false (.t 0)⟩,
  ⟨some 17, none, .mv false (.t 5)⟩,
  ⟨some 18, none, .indexAddr 1 (.t 16) (.t 17)⟩,
  ⟨some 19, none, .load false false 1 (.t 18)⟩,
  ⟨some 20, none, .mv false (.t 1)⟩,
  ⟨some 21, none, .mv false (.t 5)⟩,
  ⟨some 22, none, .indexAddr 1 (.t 20) (.t 21)⟩,
  ⟨some 23, none, .load false false 1 (.t 22)⟩,
  ⟨some 24, none, .bin .neq (.t 19) (.t 23)⟩] = true := by kernel_rfl
def slices_Equal_intint_r7 : List LOper := [
  ⟨some 4, none, .mv false (.c (.bool false))⟩]
def slices_Equal_intint_r8 : List LOper := [
  ⟨some 25, none, .bin .add (.t 13) (.c (.int .i64 1))⟩,
  ⟨some 13, none, .mv false (.t 25)⟩]
def slices_Equal_intint_b0 : LCode := (.seq (.ops slices_Equal_intint_r4) (.seq (.cond (.t 14) .skip (.exit 0)) (.seq (.block 1 (.seq (.ops slices_Equal_intint_r5) (.seq (.dops [0, 0, 3, 7, 0, 0, 48, 112, 255] slices_Equal_intint_r6) (.cond (.t 24) (.seq (.ops slices_Equal_intint_r7) .ret) .skip)))) (.ops slices_Equal_intint_r8))))
def slices_Equal_intint_r9 : List LOper := [
  ⟨some 4, none, .mv false (.c (.bool true))⟩]
def slices_Equal_intint_f : LFunc := ⟨26, 2, [.tmp 4], (.seq (.ops slices_Equal_intint_r0) (.seq (.seq (.ops slices_Equal_intint_r1) (.cond (.t 10) (.seq (.ops slices_Equal_intint_r2) .ret) .skip)) (.seq (.seq (.ops slices_Equal_intint_r3) (.block 0 (.loop [0, 1, 12, 13] slices_Equal_intint_b0))) (.seq (.ops slices_Equal_intint_r9) .ret))))⟩
def slices_Equal_intint_v : VFunc := ⟨slices_Equal_intint_f, true, false, false⟩
theorem slices_Equal_intint_ok : preFunc Try.prog ⟨[], [], []⟩ Try.f49 [[0, 1, 12, 13]] = some slices_Equal_intint_f := by kernel_rfl

-- slices.Equal[[]bool,bool]
def slices_Equal_boolbool_r0 : List LOper := [
  ⟨some 4, none, .mv false (.c (.bool false))⟩]
def slices_Equal_boolbool_r1 : List LOper := [
  ⟨some 6, none, .mv false (.t 0)⟩,
  ⟨some 7, none, .lenL (.t 6)⟩,
  ⟨some 8, none, .mv false (.t 1)⟩,
  ⟨some 9, none, .lenL (.t 8)⟩,
  ⟨some 10, none, .bin .neq (.t 7) (.t 9)⟩]
def slices_Equal_boolbool_r2 : List LOper := [
  ⟨some 4, none, .mv false (.c (.bool false))⟩]
def slices_Equal_boolbool_r3 : List LOper := [
  ⟨some 11, none, .mv false (.t 0)⟩,
  ⟨some 12, none, .lenL (.t 11)⟩,
  ⟨some 13, none, .mv false (.c (.int .i64 0))⟩]
def slices_Equal_boolbool_r4 : List LOper := [
  ⟨some 14, none, .bin .lss (.t 13) (.t 12)⟩]
def slices_Equal_boolbool_r5 : List LOper := [
  ⟨some 15, none, .mv false (.t 13)⟩,
  ⟨some 5, none, .mv false (.t 15)⟩]
def slices_Equal_boolbool_r6 : List LOper := [
  ⟨some 16, none, .mv false (.t 0)⟩,
  ⟨some 17, none, .mv false (.t 5)⟩,
  ⟨some 18, none, .indexAddr 1 (.t 16) (.t 17)⟩,
  ⟨some 19, none, .load false false 1 (.t 18)⟩,
  ⟨some 20, none, .mv false (.t 1)⟩,
  ⟨some 21, none, .mv false (.t 5)⟩,
  ⟨some 22, none, .indexAddr 1 (.t 20) (.t 21)⟩,
  ⟨some 23, none, .load false false 1 (.t 22)⟩,
  ⟨some 24, none, .eqv true .bool (.t 19) (.t 23)⟩]
theorem slices_Equal_boolbool_r6_d : drawC [0, 0, 3, 7, 0, 0, 48, 112, 255] [
  ⟨some 16, none, .mv false (.t 0)⟩,
  ⟨some 17, none, .mv false (.t 5)⟩,
  ⟨some 18, none, .indexAddr 1 (.t 16) (.t 17)⟩,
  ⟨some 19, none, .load false false 1 (.t 18)⟩,
  ⟨some 20, none, .mv false (.t 1)⟩,
  ⟨some 21, none, .mv false (.t 5)⟩,
  ⟨some 22, none, .indexAddr 1 (.t 20) (.t 21)⟩,
  ⟨some 23, none, .load false false 1 (.t 22)⟩,
  ⟨some 24, none, .eqv true .bool (.t 19) (.t 23)⟩] = true := by kernel_rfl
def slices_Equal_boolbool_r7 : List LOper := [
  ⟨some 4, none, .mv false (.c (.bool false))⟩]
def slices_Equal_boolbool_r8 : List LOper := [
  ⟨some 25, none, .bin .add (.t 13) (.c (.int .i64 1))⟩,
  ⟨some 13, none, .mv false (.t 25)⟩]
def slices_Equal_boolbool_b0 : LCode := (.seq (.ops slices_Equal_boolbool_r4) (.seq (.cond (.t 14) .skip (.exit 0)) (.seq (.block 1 (.seq (.ops slices_Equal_boolbool_r5) (.seq (.dops [0, 0, 3, 7, 0, 0, 48, 112, 255] slices_Equal_boolbool_r6) (.cond (.t 24) (.seq (.ops slices_Equal_boolbool_r7) .ret) .skip)))) (.ops slices_Equal_boolbool_r8))))
def slices_Equal_boolbool_r9 : List LOper := [
  ⟨some 4, none, .mv false (.c (.bool true))⟩]
def slices_Equal_boolbool_f : LFunc := ⟨26, 2, [.tmp 4], (.seq (.ops slices_Equal_boolbool_r0) (.seq (.seq (.ops slices_Equal_boolbool_r1) (.cond (.t 10) (.seq (.ops slices_Equal_boolbool_r2) .ret) .skip)) (.seq (.seq (.ops slices_Equal_boolbool_r3) (.block 0 (.loop [0, 1, 12, 13] slices_Equal_boolbool_b0))) (.seq (.ops slices_Equal_boolbool_r9) .ret))))⟩
def slices_Equal_boolbool_v : VFunc := ⟨slices_Equal_boolbool_f, true, false, false⟩
theorem slices_Equal_boolbool_ok : preFunc Try.prog ⟨[], [], []⟩ Try.f50 [[0, 1, 12, 13]] = some slices_Equal_boolbool_f := by kernel_rfl

-- gantry/act.Start
def act_Start_r0 : List LOper := [
  ⟨some 1, none, .box (.t 0)⟩,
  ⟨some 2, none, .alloc [.int .i64 0, .nilslice, .nilslice, .nilslice]⟩]
def act_Start_r1 : List LOper := [
  ⟨some 4, none, .fieldAddr 0 (.t 1)⟩,
  ⟨some 5, none, .load false false 1 (.t 4)⟩,
  ⟨some 6, none, .lenL (.t 5)⟩,
  ⟨some 7, none, .bin .gtr (.t 6) (.c (.int .i64 4))⟩,
  ⟨some 8, none, .mv false (.t 7)⟩,
  ⟨some 9, some (8, false), .fieldAddr 2 (.t 1)⟩,
  ⟨some 10, some (8, false), .load false false 1 (.t 9)⟩,
  ⟨some 11, some (8, false), .lenL (.t 10)⟩,
  ⟨some 12, some (8, false), .bin .gtr (.t 11) (.c (.int .i64 6))⟩,
  ⟨some 13, none, .pick (.t 8) (.c (.bool true)) (.t 12)⟩,
  ⟨some 14, none, .mv false (.t 13)⟩,
  ⟨some 15, some (14, false), .fieldAddr 3 (.t 1)⟩,
  ⟨some 16, some (14, false), .load false false 1 (.t 15)⟩,
  ⟨some 17, some (14, false), .lenL (.t 16)⟩,
  ⟨some 18, some (14, false), .bin .gtr (.t 17) (.c (.int .i64 8))⟩,
  ⟨some 19, none, .pick (.t 14) (.c (.bool true)) (.t 18)⟩]
def act_Start_r2 : List LOper := [
  ⟨some 20, none, .build [.int .i64 0, .nilslice, .nilslice, .nilslice] []⟩,
  ⟨none, none, .store 4 (.t 2) (.t 20)⟩]
def act_Start_r3 : List LOper := [
  ⟨some 21, none, .fieldAddr 3 (.t 1)⟩,
  ⟨some 22, none, .load false false 1 (.t 21)⟩,
  ⟨some 23, none, .lenL (.t 22)⟩,
  ⟨some 24, none, .fieldAddr 2 (.t 1)⟩,
  ⟨some 25, none, .load false false 1 (.t 24)⟩,
  ⟨some 26, none, .lenL (.t 25)⟩,
  ⟨some 27, none, .make false 1 1 [.bool false] (.t 26) (.t 26)⟩,
  ⟨some 28, none, .build [.int .i64 0, .nilslice, .nilslice, .nilslice] [(0, 1, (.t 23)), (2, 1, (.t 27))]⟩,
  ⟨some 3, none, .alloc [.int .i64 0, .nilslice, .nilslice, .nilslice]⟩,
  ⟨none, none, .store 4 (.t 3) (.t 28)⟩]
theorem act_Start_r3_d : drawC [0, 1, 3, 0, 8, 24, 56, 127, 0, 511] [
  ⟨some 21, none, .fieldAddr 3 (.t 1)⟩,
  ⟨some 22, none, .load false false 1 (.t 21)⟩,
  ⟨some 23, none, .lenL (.t 22)⟩,
  ⟨some 24, none, .fieldAddr 2 (.t 1)⟩,
  ⟨some 25, none, .load false false 1 (.t 24)⟩,
  ⟨some 26, none, .lenL (.t 25)⟩,
  ⟨some 27, none, .make false 1 1 [.bool false] (.t 26) (.t 26)⟩,
  ⟨some 28, none, .build [.int .i64 0, .nilslice, .nilslice, .nilslice] [(0, 1, (.t 23)), (2, 1, (.t 27))]⟩,
  ⟨some 3, none, .alloc [.int .i64 0, .nilslice, .nilslice, .nilslice]⟩,
  ⟨none, none, .store 4 (.t 3) (.t 28)⟩] = false ∧ drawW [0, 1, 3, 0, 8, 24, 56, 127, 0, 511] [
  ⟨some 21, none, .fieldAddr 3 (.t 1)⟩,
  ⟨some 22, none, .load false false 1 (.t 21)⟩,
  ⟨some 23, none, .lenL (.t 22)⟩,
  ⟨some 24, none, .fieldAddr 2 (.t 1)⟩,
  ⟨some 25, none, .load false false 1 (.t 24)⟩,
  ⟨some 26, none, .lenL (.t 25)⟩,
  ⟨some 27, none, .make false 1 1 [.bool false] (.t 26) (.t 26)⟩,
  ⟨some 28, none, .build [.int .i64 0, .nilslice, .nilslice, .nilslice] [(0, 1, (.t 23)), (2, 1, (.t 27))]⟩,
  ⟨some 3, none, .alloc [.int .i64 0, .nilslice, .nilslice, .nilslice]⟩,
  ⟨none, none, .store 4 (.t 3) (.t 28)⟩] = true := ⟨by kernel_rfl, by kernel_rfl⟩
def act_Start_r4 : List LOper := [
  ⟨some 29, none, .fieldAddr 2 (.t 1)⟩,
  ⟨some 30, none, .load false false 1 (.t 29)⟩,
  ⟨some 31, none, .lenL (.t 30)⟩,
  ⟨some 32, none, .mv false (.c (.int .i64 0))⟩]
def act_Start_r5 : List LOper := [
  ⟨some 33, none, .bin .lss (.t 32) (.t 31)⟩]
def act_Start_r6 : List LOper := [
  ⟨some 34, none, .fieldAddr 1 (.t 3)⟩,
  ⟨some 35, none, .load true false 1 (.t 34)⟩,
  ⟨some 36, none, .bslice false 1 1 [.int .i64 0] [(0, 1, (.c (.int .i64 (-1))))]⟩,
  ⟨some 37, none, .append true 1 8 (.t 35) (.t 36)⟩,
  ⟨some 38, none, .fieldAddr 1 (.t 3)⟩,
  ⟨none, none, .store 1 (.t 38) (.t 37)⟩]
def act_Start_r7 : List LOper := [
  ⟨some 39, none, .bin .add (.t 32) (.c (.int .i64 1))⟩,
  ⟨some 32, none, .mv false (.t 39)⟩]
def act_Start_b0 : LCode := (.seq (.ops act_Start_r5) (.seq (.cond (.t 33) .skip (.exit 0)) (.seq (.block 1 (.ops act_Start_r6)) (.ops act_Start_r7))))
def act_Start_r8 : List LOper := [
  ⟨some 40, none, .fieldAddr 0 (.t 1)⟩,
  ⟨some 41, none, .load false false 1 (.t 40)⟩,
  ⟨some 42, none, .lenL (.t 41)⟩,
  ⟨some 43, none, .mv false (.c (.int .i64 0))⟩]
def act_Start_r9 : List LOper := [
  ⟨some 44, none, .bin .lss (.t 43) (.t 42)⟩]
def act_Start_r10 : List LOper := [
  ⟨some 45, none, .fieldAddr 3 (.t 3)⟩,
  ⟨some 46, none, .load true false 1 (.t 45)⟩,
  ⟨some 47, none, .bslice false 1 1 [.int .i64 0] [(0, 1, (.c (.int .i64 (-1))))]⟩,
  ⟨some 48, none, .append true 1 8 (.t 46) (.t 47)⟩,
  ⟨some 49, none, .fieldAddr 3 (.t 3)⟩,
  ⟨none, none, .store 1 (.t 49) (.t 48)⟩]
def act_Start_r11 : List LOper := [
  ⟨some 50, none, .bin .add (.t 43) (.c (.int .i64 1))⟩,
  ⟨some 43, none, .mv false (.t 50)⟩]
def act_Start_b1 : LCode := (.seq (.ops act_Start_r9) (.seq (.cond (.t 44) .skip (.exit 2)) (.seq (.block 3 (.ops act_Start_r10)) (.ops act_Start_r11))))
def act_Start_r12 : List LOper := [
  ⟨some 51, none, .load false true 4 (.t 3)⟩,
  ⟨none, none, .store 4 (.t 2) (.t 51)⟩]
def act_Start_f : LFunc := ⟨52, 1, [.cell 2 true 4], (.seq (.ops act_Start_r0) (.seq (.seq (.ops act_Start_r1) (.cond (.t 19) (.seq (.ops act_Start_r2) .ret) .skip)) (.seq (.dops [0, 1, 3, 0, 8, 24, 56, 127, 0, 511] act_Start_r3) (.seq (.seq (.ops act_Start_r4) (.block 0 (.loop [1, 2, 3, 31, 32] act_Start_b0))) (.seq (.seq (.ops act_Start_r8) (.block 2 (.loop [2, 3, 42, 43] act_Start_b1))) (.seq (.ops act_Start_r12) .ret))))))⟩
def act_Start_v : VFunc := ⟨act_Start_f, true, false, false⟩
theorem act_Start_ok : preFunc Try.prog ⟨[35, 46], [], [27]⟩ Try.f51 [[1, 2, 3, 31, 32], [2, 3, 42, 43]] = some act_Start_f := by kernel_rfl

-- gantry/fact.Valid
def fact_Valid_r0 : List LOper := [
  ⟨some 1, none, .box (.t 0)⟩,
  ⟨some 2, none, .mv false (.c (.bool false))⟩]
def fact_Valid_r1 : List LOper := [
  ⟨some 3, none, .mv false (.c (.int .i64 0))⟩,
  ⟨some 4, none, .mv false (.c (.int .i64 1))⟩]
def fact_Valid_r2 : List LOper := [
  ⟨some 5, none, .fieldAddr 0 (.t 1)⟩,
  ⟨some 6, none, .load false false 1 (.t 5)⟩]
def fact_Valid_r3 : List LOper := [
  ⟨some 8, none, .bin .eql (.t 6) (.c (.int .i64 1))⟩,
  ⟨some 7, none, .mv false (.t 8)⟩]
def fact_Valid_r4 : List LOper := [
  ⟨some 3, none, .mv false (.c (.int .i64 6))⟩,
  ⟨some 4, none, .mv false (.c (.int .i64 8))⟩]
def fact_Valid_r5 : List LOper := [
  ⟨some 10, none, .bin .eql (.t 6) (.c (.int .i64 2))⟩,
  ⟨some 9, none, .mv false (.t 10)⟩]
def fact_Valid_r6 : List LOper := [
  ⟨some 3, none, .mv false (.c (.int .i64 4))⟩,
  ⟨some 4, none, .mv false (.c (.int .i64 6))⟩]
def fact_Valid_r7 : List LOper := [
  ⟨some 12, none, .bin .eql (.t 6) (.c (.int .i64 3))⟩,
  ⟨some 11, none, .mv false (.t 12)⟩]
def fact_Valid_r8 : List LOper := [
  ⟨some 3, none, .mv false (.c (.int .i64 4))⟩]
def fact_Valid_r9 : List LOper := [
  ⟨some 14, none, .bin .eql (.t 6) (.c (.int .i64 4))⟩,
  ⟨some 13, none, .mv false (.t 14)⟩]
def fact_Valid_r10 : List LOper := [
  ⟨some 3, none, .mv false (.c (.int .i64 8))⟩]
def fact_Valid_r11 : List LOper := [
  ⟨some 16, none, .bin .eql (.t 6) (.c (.int .i64 5))⟩,
  ⟨some 15, none, .mv false (.t 16)⟩]
def fact_Valid_r12 : List LOper := [
  ⟨some 3, none, .mv false (.c (.int .i64 6))⟩]
def fact_Valid_r13 : List LOper := [
  ⟨some 18, none, .bin .eql (.t 6) (.c (.int .i64 6))⟩,
  ⟨some 17, none, .mv false (.t 18)⟩]
def fact_Valid_r14 : List LOper := [
  ⟨some 3, none, .mv false (.c (.int .i64 4))⟩,
  ⟨some 4, none, .mv false (.c (.int .i64 14))⟩]
def fact_Valid_r15 : List LOper := [
  ⟨some 19, none, .fieldAddr 1 (.t 1)⟩,
  ⟨some 20, none, .load false false 1 (.t 19)⟩,
  ⟨some 21, none, .bin .geq (.t 20) (.c (.int .i64 0))⟩,
  ⟨some 22, none, .mv false (.t 21)⟩,
  ⟨some 23, some (22, true), .fieldAddr 1 (.t 1)⟩,
  ⟨some 24, some (22, true), .load false false 1 (.t 23)⟩,
  ⟨some 25, some (22, true), .mv false (.t 3)⟩,
  ⟨some 26, some (22, true), .bin .lss (.t 24) (.t 25)⟩,
  ⟨some 27, none, .pick (.t 22) (.t 26) (.c (.bool false))⟩,
  ⟨some 28, none, .mv false (.t 27)⟩,
  ⟨some 29, some (28, true), .fieldAddr 2 (.t 1)⟩,
  ⟨some 30, some (28, true), .load false false 1 (.t 29)⟩,
  ⟨some 31, some (28, true), .bin .geq (.t 30) (.c (.int .i64 0))⟩,
  ⟨some 32, none, .pick (.t 28) (.t 31) (.c (.bool false))⟩,
  ⟨some 33, none, .mv false (.t 32)⟩,
  ⟨some 34, some (33, true), .fieldAddr 2 (.t 1)⟩,
  ⟨some 35, some (33, true), .load false false 1 (.t 34)⟩,
  ⟨some 36, some (33, true), .mv false (.t 4)⟩,
  ⟨some 37, some (33, true), .bin .lss (.t 35) (.t 36)⟩,
  ⟨some 38, none, .pick (.t 33) (.t 37) (.c (.bool false))⟩,
  ⟨some 2, none, .mv false (.t 38)⟩]
def fact_Valid_f : LFunc := ⟨39, 1, [.tmp 2], (.seq (.ops fact_Valid_r0) (.seq (.ops fact_Valid_r1) (.seq (.seq (.ops fact_Valid_r2) (.block 0 (.seq (.ops fact_Valid_r3) (.cond (.t 7) (.ops fact_Valid_r4) (.seq (.ops fact_Valid_r5) (.cond (.t 9) (.ops fact_Valid_r6) (.seq (.ops fact_Valid_r7) (.cond (.t 11) (.ops fact_Valid_r8) (.seq (.ops fact_Valid_r9) (.cond (.t 13) (.ops fact_Valid_r10) (.seq (.ops fact_Valid_r11) (.cond (.t 15) (.ops fact_Valid_r12) (.seq (.ops fact_Valid_r13) (.cond (.t 17) (.ops fact_Valid_r14) .skip)))))))))))))) (.seq (.ops fact_Valid_r15) .ret))))⟩
def fact_Valid_v : VFunc := ⟨fact_Valid_f, true, false, false⟩
theorem fact_Valid_ok : preFunc Try.prog ⟨[], [], []⟩ Try.f52 [] = some fact_Valid_f := by kernel_rfl

-- gantry/fact.Compare
def fact_Compare_r0 : List LOper := [
  ⟨some 2, none, .box (.t 0)⟩,
  ⟨some 3, none, .box (.t 1)⟩,
  ⟨some 4, none, .mv false (.c (.int .i64 0))⟩]
def fact_Compare_r1 : List LOper := [
  ⟨some 5, none, .fieldAddr 0 (.t 2)⟩,
  ⟨some 6, none, .load false false 1 (.t 5)⟩,
  ⟨some 7, none, .fieldAddr 1 (.t 2)⟩,
  ⟨some 8, none, .load false false 1 (.t 7)⟩,
  ⟨some 9, none, .fieldAddr 2 (.t 2)⟩,
  ⟨some 10, none, .load false false 1 (.t 9)⟩,
  ⟨some 11, none, .bslice false 3 1 [.int .i64 0, .int .i64 0, .int .i64 0] [(0, 1, (.t 6)), (1, 1, (.t 8)), (2, 1, (.t 10))]⟩,
  ⟨some 12, none, .fieldAddr 0 (.t 3)⟩,
  ⟨some 13, none, .load false false 1 (.t 12)⟩,
  ⟨some 14, none, .fieldAddr 1 (.t 3)⟩,
  ⟨some 15, none, .load false false 1 (.t 14)⟩,
  ⟨some 16, none, .fieldAddr 2 (.t 3)⟩,
  ⟨some 17, none, .load false false 1 (.t 16)⟩,
  ⟨some 18, none, .bslice false 3 1 [.int .i64 0, .int .i64 0, .int .i64 0] [(0, 1, (.t 13)), (1, 1, (.t 15)), (2, 1, (.t 17))]⟩,
  ⟨some 19, none, .call false 65 [(.t 11), (.t 18)]⟩,
  ⟨some 4, none, .mv false (.t 19)⟩]
def fact_Compare_f : LFunc := ⟨20, 2, [.tmp 4], (.seq (.ops fact_Compare_r0) (.seq (.ops fact_Compare_r1) .ret))⟩
def fact_Compare_v : VFunc := ⟨fact_Compare_f, true, false, false⟩
theorem fact_Compare_ok : preFunc Try.prog ⟨[], [], []⟩ Try.f54 [] = some fact_Compare_f := by kernel_rfl

-- slices.Compact[[]gantry/fact.Fact,gantry/fact.Fact]
def slices_Compact_gantryfactFact_r0 : List LOper := [
  ⟨some 2, none, .mv false (.c (.nilslice))⟩]
def slices_Compact_gantryfactFact_r1 : List LOper := [
  ⟨some 6, none, .mv false (.t 0)⟩,
  ⟨some 7, none, .lenL (.t 6)⟩,
  ⟨some 8, none, .bin .lss (.t 7) (.c (.int .i64 2))⟩]
def slices_Compact_gantryfactFact_r2 : List LOper := [
  ⟨some 9, none, .mv false (.t 0)⟩,
  ⟨some 2, none, .mv false (.t 9)⟩]
def slices_Compact_gantryfactFact_r3 : List LOper := [
  ⟨some 3, none, .mv false (.c (.int .i64 1))⟩]
def slices_Compact_gantryfactFact_r4 : List LOper := [
  ⟨some 10, none, .mv false (.t 3)⟩,
  ⟨some 11, none, .mv false (.t 0)⟩,
  ⟨some 12, none, .lenL (.t 11)⟩,
  ⟨some 13, none, .bin .lss (.t 10) (.t 12)⟩]
def slices_Compact_gantryfactFact_r5 : List LOper := [
  ⟨some 16, none, .mv false (.t 0)⟩,
  ⟨some 17, none, .mv false (.t 3)⟩,
  ⟨some 18, none, .indexAddr 3 (.t 16) (.t 17)⟩,
  ⟨some 19, none, .load false true 3 (.t 18)⟩,
  ⟨some 20, none, .mv false (.t 0)⟩,
  ⟨some 21, none, .mv false (.t 3)⟩,
  ⟨some 22, none, .bin .sub (.t 21) (.c (.int .i64 1))⟩,
  ⟨some 23, none, .indexAddr 3 (.t 20) (.t 22)⟩,
  ⟨some 24, none, .load false true 3 (.t 23)⟩,
  ⟨some 25, none, .eqv false (.struct [.i, .i, .i]) (.t 19) (.t 24)⟩]
theorem slices_Compact_gantryfactFact_r5_d : drawC [0, 0, 3, 7, 0, 0, 32, 112, 240, 511] [
  ⟨some 16, none, .mv false (.t 0)⟩,
  ⟨some 17, none, .mv false (.t 3)⟩,
  ⟨some 18, none, .indexAddr 3 (.t 16) (.t 17)⟩,
  ⟨some 19, none, .load false true 3 (.t 18)⟩,
  ⟨some 20, none, .mv false (.t 0)⟩,
  ⟨some 21, none, .mv false (.t 3)⟩,
  ⟨some 22, none, .bin .sub (.t 21) (.c (.int .i64 1))⟩,
  ⟨some 23, none, .indexAddr 3 (.t 20) (.t 22)⟩,
  ⟨some 24, none, .load false true 3 (.t 23)⟩,
  ⟨some 25, none, .eqv false (.struct [.i, .i, .i]) (.t 19) (.t 24)⟩] = true := by kernel_rfl
def slices_Compact_gantryfactFact_r6 : List LOper := [
  ⟨some 26, none, .mv false (.t 0)⟩,
  ⟨some 27, none, .mv false (.t 3)⟩,
  ⟨some 28, none, .slc 3 (.t 26) (some (.t 27)) none none⟩,
  ⟨some 4, none, .mv false (.t 28)⟩]
def slices_Compact_gantryfactFact_r7 : List LOper := [
  ⟨some 5, none, .mv false (.c (.int .i64 1))⟩]
def slices_Compact_gantryfactFact_r8 : List LOper := [
  ⟨some 29, none, .mv false (.t 5)⟩,
  ⟨some 30, none, .mv false (.t 4)⟩,
  ⟨some 31, none, .lenL (.t 30)⟩,
  ⟨some 32, none, .bin .lss (.t 29) (.t 31)⟩]
def slices_Compact_gantryfactFact_r9 : List LOper := [
  ⟨some 35, none, .mv false (.t 4)⟩,
  ⟨some 36, none, .mv false (.t 5)⟩,
  ⟨some 37, none, .indexAddr 3 (.t 35) (.t 36)⟩,
  ⟨some 38, none, .load false true 3 (.t 37)⟩,
  ⟨some 39, none, .mv false (.t 4)⟩,
  ⟨some 40, none, .mv false (.t 5)⟩,
  ⟨some 41, none, .bin .sub (.t 40) (.c (.int .i64 1))⟩,
  ⟨some 42, none, .indexAddr 3 (.t 39) (.t 41)⟩,
  ⟨some 43, none, .load false true 3 (.t 42)⟩,
  ⟨some 44, none, .eqv true (.struct [.i, .i, .i]) (.t 38) (.t 43)⟩]
theorem slices_Compact_gantryfactFact_r9_d : drawC [0, 0, 3, 7, 0, 0, 32, 112, 240, 511] [
  ⟨some 35, none, .mv false (.t 4)⟩,
  ⟨some 36, none, .mv false (.t 5)⟩,
  ⟨some 37, none, .indexAddr 3 (.t 35) (.t 36)⟩,
  ⟨some 38, none, .load false true 3 (.t 37)⟩,
  ⟨some 39, none, .mv false (.t 4)⟩,
  ⟨some 40, none, .mv false (.t 5)⟩,
  ⟨some 41, none, .bin .sub (.t 40) (.c (.int .i64 1))⟩,
  ⟨some 42, none, .indexAddr 3 (.t 39) (.t 41)⟩,
  ⟨some 43, none, .load false true 3 (.t 42)⟩,
  ⟨some 44, none, .eqv true (.struct [.i, .i, .i]) (.t 38) (.t 43)⟩] = true := by kernel_rfl
def slices_Compact_gantryfactFact_r10 : List LOper := [
  ⟨some 45, none, .mv false (.t 0)⟩,
  ⟨some 46, none, .mv false (.t 3)⟩,
  ⟨some 47, none, .mv false (.t 4)⟩,
  ⟨some 48, none, .mv false (.t 5)⟩,
  ⟨some 49, none, .indexAddr 3 (.t 47) (.t 48)⟩,
  ⟨some 50, none, .load false true 3 (.t 49)⟩,
  ⟨some 51, none, .indexAddr 3 (.t 45) (.t 46)⟩,
  ⟨none, none, .store 3 (.t 51) (.t 50)⟩]
def slices_Compact_gantryfactFact_r11 : List LOper := [
  ⟨some 52, none, .mv false (.t 3)⟩,
  ⟨some 53, none, .bin .add (.t 52) (.c (.int .i64 1))⟩,
  ⟨some 3, none, .mv false (.t 53)⟩]
def slices_Compact_gantryfactFact_r12 : List LOper := [
  ⟨some 33, none, .mv false (.t 5)⟩,
  ⟨some 34, none, .bin .add (.t 33) (.c (.int .i64 1))⟩,
  ⟨some 5, none, .mv false (.t 34)⟩]
def slices_Compact_gantryfactFact_b1 : LCode := (.seq (.seq (.ops slices_Compact_gantryfactFact_r8) (.cond (.t 32) .skip (.exit 2))) (.seq (.block 3 (.seq (.dops [0, 0, 3, 7, 0, 0, 32, 112, 240, 511] slices_Compact_gantryfactFact_r9) (.cond (.t 44) (.seq (.ops slices_Compact_gantryfactFact_r10) (.ops slices_Compact_gantryfactFact_r11)) .skip))) (.ops slices_Compact_gantryfactFact_r12)))
def slices_Compact_gantryfactFact_r13 : List LOper := [
  ⟨some 54, none, .mv false (.t 0)⟩,
  ⟨some 55, none, .mv false (.t 3)⟩,
  ⟨some 56, none, .slc 3 (.t 54) (some (.t 55)) none none⟩,
  ⟨none, none, .rewr (.clear [.int .i64 0, .int .i64 0, .int .i64 0]) 3 0 (.t 56) (.c (.func 0 []))⟩]
def slices_Compact_gantryfactFact_r14 : List LOper := [
  ⟨some 57, none, .mv false (.t 0)⟩,
  ⟨some 58, none, .mv false (.t 3)⟩,
  ⟨some 59, none, .slc 3 (.t 57) none (some (.t 58)) none⟩,
  ⟨some 2, none, .mv false (.t 59)⟩]
def slices_Compact_gantryfactFact_r15 : List LOper := [
  ⟨some 14, none, .mv false (.t 3)⟩,
  ⟨some 15, none, .bin .add (.t 14) (.c (.int .i64 1))⟩,
  ⟨some 3, none, .mv false (.t 15)⟩]
def slices_Compact_gantryfactFact_b0 : LCode := (.seq (.seq (.ops slices_Compact_gantryfactFact_r4) (.cond (.t 13) .skip (.exit 0))) (.seq (.block 1 (.seq (.dops [0, 0, 3, 7, 0, 0, 32, 112, 240, 511] slices_Compact_gantryfactFact_r5) (.cond (.t 25) (.seq (.ops slices_Compact_gantryfactFact_r6) (.seq (.seq (.ops slices_Compact_gantryfactFact_r7) (.block 2 (.loop [0, 3, 4, 5] slices_Compact_gantryfactFact_b1))) (.seq (.ops slices_Compact_gantryfactFact_r13) (.seq (.ops slices_Compact_gantryfactFact_r14) .ret)))) .skip))) (.ops slices_Compact_gantryfactFact_r15)))
def slices_Compact_gantryfactFact_r16 : List LOper := [
  ⟨some 60, none, .mv false (.t 0)⟩,
  ⟨some 2, none, .mv false (.t 60)⟩]
def slices_Compact_gantryfactFact_f : LFunc := ⟨61, 1, [.tmp 2], (.seq (.ops slices_Compact_gantryfactFact_r0) (.seq (.seq (.ops slices_Compact_gantryfactFact_r1) (.cond (.t 8) (.seq (.ops slices_Compact_gantryfactFact_r2) .ret) .skip)) (.seq (.seq (.ops slices_Compact_gantryfactFact_r3) (.block 0 (.loop [0, 3] slices_Compact_gantryfactFact_b0))) (.seq (.ops slices_Compact_gantryfactFact_r16) .ret))))⟩
def slices_Compact_gantryfactFact_v : VFunc := ⟨slices_Compact_gantryfactFact_f, false, false, true⟩
theorem slices_Compact_gantryfactFact_ok : preFunc Try.prog ⟨[], [], []⟩ Try.f55 [[0, 3], [0, 3, 4, 5]] = some slices_Compact_gantryfactFact_f := by kernel_rfl

-- gantry/fact.Has
def fact_Has_r0 : List LOper := [
  ⟨some 3, none, .box (.t 1)⟩,
  ⟨some 4, none, .mv false (.c (.bool false))⟩]
def fact_Has_r1 : List LOper := [
  ⟨some 5, none, .mv false (.t 0)⟩,
  ⟨some 6, none, .load false true 3 (.t 3)⟩,
  ⟨some 7, none, .call false 74 [(.t 5), (.t 6)]⟩,
  ⟨some 4, none, .mv false (.t 7)⟩]
def fact_Has_f : LFunc := ⟨8, 2, [.tmp 4], (.seq (.ops fact_Has_r0) (.seq (.ops fact_Has_r1) .ret))⟩
def fact_Has_v : VFunc := ⟨fact_Has_f, true, false, false⟩
theorem fact_Has_ok : preFunc Try.prog ⟨[], [], []⟩ Try.f56 [] = some fact_Has_f := by kernel_rfl

-- slices.ContainsFunc[[]gantry/fact.Fact,gantry/fact.Fact]
def slices_ContainsFunc_gantryfactFact_r0 : List LOper := [
  ⟨some 4, none, .mv false (.c (.bool false))⟩]
def slices_ContainsFunc_gantryfactFact_r1 : List LOper := [
  ⟨some 5, none, .mv false (.t 0)⟩,
  ⟨some 6, none, .mv false (.t 1)⟩,
  ⟨some 7, none, .call false 75 [(.t 5), (.t 6)]⟩,
  ⟨some 8, none, .bin .geq (.t 7) (.c (.int .i64 0))⟩,
  ⟨some 4, none, .mv false (.t 8)⟩]
def slices_ContainsFunc_gantryfactFact_f : LFunc := ⟨9, 2, [.tmp 4], (.seq (.ops slices_ContainsFunc_gantryfactFact_r0) (.seq (.ops slices_ContainsFunc_gantryfactFact_r1) .ret))⟩
def slices_ContainsFunc_gantryfactFact_v : VFunc := ⟨slices_ContainsFunc_gantryfactFact_f, true, false, false⟩
theorem slices_ContainsFunc_gantryfactFact_ok : preFunc Try.prog ⟨[], [], []⟩ Try.f57 [] = some slices_ContainsFunc_gantryfactFact_f := by kernel_rfl

-- gantry/fact.Within$1
def fact_Within_1_r0 : List LOper := [
  ⟨some 2, none, .box (.t 0)⟩,
  ⟨some 3, none, .mv false (.c (.bool false))⟩]
def fact_Within_1_r1 : List LOper := [
  ⟨some 4, none, .load false false 1 (.t 1)⟩,
  ⟨some 5, none, .load false true 3 (.t 2)⟩,
  ⟨some 6, none, .call false 56 [(.t 4), (.t 5)]⟩,
  ⟨some 7, none, .un .not (.t 6)⟩,
  ⟨some 3, none, .mv false (.t 7)⟩]
def fact_Within_1_f : LFunc := ⟨8, 2, [.tmp 3], (.seq (.ops fact_Within_1_r0) (.seq (.ops fact_Within_1_r1) .ret))⟩
def fact_Within_1_v : VFunc := ⟨fact_Within_1_f, true, false, false⟩
theorem fact_Within_1_ok : preFunc Try.prog ⟨[], [], []⟩ Try.f58 [] = some fact_Within_1_f := by kernel_rfl

-- slices.DeleteFunc[[]gantry/api.Step,gantry/api.Step]
def slices_DeleteFunc_pgantryapiStep_r0 : List LOper := [
  ⟨some 4, none, .mv false (.c (.nilslice))⟩]
def slices_DeleteFunc_pgantryapiStep_r1 : List LOper := [
  ⟨some 8, none, .mv false (.t 0)⟩,
  ⟨some 9, none, .mv false (.t 1)⟩,
  ⟨some 10, none, .call false 76 [(.t 8), (.t 9)]⟩,
  ⟨some 5, none, .mv false (.t 10)⟩]
def slices_DeleteFunc_pgantryapiStep_r2 : List LOper := [
  ⟨some 11, none, .mv false (.t 5)⟩,
  ⟨some 12, none, .bin .eql (.t 11) (.c (.int .i64 (-1)))⟩]
def slices_DeleteFunc_pgantryapiStep_r3 : List LOper := [
  ⟨some 13, none, .mv false (.t 0)⟩,
  ⟨some 4, none, .mv false (.t 13)⟩]
def slices_DeleteFunc_pgantryapiStep_r4 : List LOper := [
  ⟨some 14, none, .mv false (.t 5)⟩,
  ⟨some 15, none, .bin .add (.t 14) (.c (.int .i64 1))⟩,
  ⟨some 6, none, .mv false (.t 15)⟩]
def slices_DeleteFunc_pgantryapiStep_r5 : List LOper := [
  ⟨some 16, none, .mv false (.t 6)⟩,
  ⟨some 17, none, .mv false (.t 0)⟩,
  ⟨some 18, none, .lenL (.t 17)⟩,
  ⟨some 19, none, .bin .lss (.t 16) (.t 18)⟩]
def slices_DeleteFunc_pgantryapiStep_r6 : List LOper := [
  ⟨some 22, none, .mv false (.t 0)⟩,
  ⟨some 23, none, .mv false (.t 6)⟩,
  ⟨some 24, none, .indexAddr 5 (.t 22) (.t 23)⟩,
  ⟨some 25, none, .load false true 5 (.t 24)⟩,
  ⟨some 7, none, .alloc [.int .i64 0, .int .i64 0, .int .i64 0, .int .i64 0, .int .i64 0]⟩,
  ⟨none, none, .store 5 (.t 7) (.t 25)⟩]
def slices_DeleteFunc_pgantryapiStep_r7 : List LOper := [
  ⟨some 26, none, .mv false (.t 1)⟩,
  ⟨some 27, none, .load false true 5 (.t 7)⟩,
  ⟨some 28, none, .callv (.t 26) [(.t 27)]⟩,
  ⟨some 29, none, .un .not (.t 28)⟩]
def slices_DeleteFunc_pgantryapiStep_r8 : List LOper := [
  ⟨some 30, none, .mv false (.t 0)⟩,
  ⟨some 31, none, .mv false (.t 5)⟩,
  ⟨some 32, none, .load false true 5 (.t 7)⟩,
  ⟨some 33, none, .indexAddr 5 (.t 30) (.t 31)⟩,
  ⟨none, none, .store 5 (.t 33) (.t 32)⟩]
def slices_DeleteFunc_pgantryapiStep_r9 : List LOper := [
  ⟨some 34, none, .mv false (.t 5)⟩,
  ⟨some 35, none, .bin .add (.t 34) (.c (.int .i64 1))⟩,
  ⟨some 5, none, .mv false (.t 35)⟩]
def slices_DeleteFunc_pgantryapiStep_r10 : List LOper := [
  ⟨some 20, none, .mv false (.t 6)⟩,
  ⟨some 21, none, .bin .add (.t 20) (.c (.int .i64 1))⟩,
  ⟨some 6, none, .mv false (.t 21)⟩]
def slices_DeleteFunc_pgantryapiStep_b0 : LCode := (.seq (.seq (.ops slices_DeleteFunc_pgantryapiStep_r5) (.cond (.t 19) .skip (.exit 0))) (.seq (.block 1 (.seq (.ops slices_DeleteFunc_pgantryapiStep_r6) (.seq (.ops slices_DeleteFunc_pgantryapiStep_r7) (.cond (.t 29) (.seq (.ops slices_DeleteFunc_pgantryapiStep_r8) (.ops slices_DeleteFunc_pgantryapiStep_r9)) .skip)))) (.ops slices_DeleteFunc_pgantryapiStep_r10)))
def slices_DeleteFunc_pgantryapiStep_r11 : List LOper := [
  ⟨some 36, none, .mv false (.t 0)⟩,
  ⟨some 37, none, .mv false (.t 5)⟩,
  ⟨some 38, none, .slc 5 (.t 36) (some (.t 37)) none none⟩,
  ⟨none, none, .rewr (.clear [.int .i64 0, .int .i64 0, .int .i64 0, .int .i64 0, .int .i64 0]) 5 0 (.t 38) (.c (.func 0 []))⟩]
def slices_DeleteFunc_pgantryapiStep_r12 : List LOper := [
  ⟨some 39, none, .mv false (.t 0)⟩,
  ⟨some 40, none, .mv false (.t 5)⟩,
  ⟨some 41, none, .slc 5 (.t 39) none (some (.t 40)) none⟩,
  ⟨some 4, none, .mv false (.t 41)⟩]
def slices_DeleteFunc_pgantryapiStep_f : LFunc := ⟨42, 2, [.tmp 4], (.seq (.ops slices_DeleteFunc_pgantryapiStep_r0) (.seq (.ops slices_DeleteFunc_pgantryapiStep_r1) (.seq (.seq (.ops slices_DeleteFunc_pgantryapiStep_r2) (.cond (.t 12) (.seq (.ops slices_DeleteFunc_pgantryapiStep_r3) .ret) .skip)) (.seq (.seq (.ops slices_DeleteFunc_pgantryapiStep_r4) (.block 0 (.loop [0, 1, 5, 6] slices_DeleteFunc_pgantryapiStep_b0))) (.seq (.ops slices_DeleteFunc_pgantryapiStep_r11) (.seq (.ops slices_DeleteFunc_pgantryapiStep_r12) .ret))))))⟩
def slices_DeleteFunc_pgantryapiStep_v : VFunc := ⟨slices_DeleteFunc_pgantryapiStep_f, false, false, true⟩
theorem slices_DeleteFunc_pgantryapiStep_ok : preFunc Try.prog ⟨[], [], []⟩ Try.f59 [[0, 1, 5, 6]] = some slices_DeleteFunc_pgantryapiStep_f := by kernel_rfl

-- gantry/act.Steps$1
def act_Steps_1_r0 : List LOper := [
  ⟨some 2, none, .box (.t 0)⟩,
  ⟨some 3, none, .mv false (.c (.bool false))⟩]
def act_Steps_1_r1 : List LOper := [
  ⟨some 4, none, .load false true 4 (.t 1)⟩,
  ⟨some 5, none, .load false true 5 (.t 2)⟩,
  ⟨some 6, none, .call false 33 [(.t 4), (.t 5)]⟩,
  ⟨some 7, none, .bin .neq (.t 6) (.c (.int .i64 0))⟩,
  ⟨some 3, none, .mv false (.t 7)⟩]
def act_Steps_1_f : LFunc := ⟨8, 2, [.tmp 3], (.seq (.ops act_Steps_1_r0) (.seq (.ops act_Steps_1_r1) .ret))⟩
def act_Steps_1_v : VFunc := ⟨act_Steps_1_f, true, false, false⟩
theorem act_Steps_1_ok : preFunc Try.prog ⟨[], [], []⟩ Try.f60 [] = some act_Steps_1_f := by kernel_rfl

-- slices.Index[[]gantry/api.Step,gantry/api.Step]
def slices_Index_pgantryapiStep_r0 : List LOper := [
  ⟨some 3, none, .box (.t 1)⟩,
  ⟨some 4, none, .mv false (.c (.int .i64 0))⟩]
def slices_Index_pgantryapiStep_r1 : List LOper := [
  ⟨some 6, none, .mv false (.t 0)⟩,
  ⟨some 7, none, .lenL (.t 6)⟩,
  ⟨some 8, none, .mv false (.c (.int .i64 0))⟩]
def slices_Index_pgantryapiStep_r2 : List LOper := [
  ⟨some 9, none, .bin .lss (.t 8) (.t 7)⟩]
def slices_Index_pgantryapiStep_r3 : List LOper := [
  ⟨some 10, none, .mv false (.t 8)⟩,
  ⟨some 5, none, .mv false (.t 10)⟩]
def slices_Index_pgantryapiStep_r4 : List LOper := [
  ⟨some 11, none, .load false true 5 (.t 3)⟩,
  ⟨some 12, none, .mv false (.t 0)⟩,
  ⟨some 13, none, .mv false (.t 5)⟩,
  ⟨some 14, none, .indexAddr 5 (.t 12) (.t 13)⟩,
  ⟨some 15, none, .load false true 5 (.t 14)⟩,
  ⟨some 16, none, .eqv false (.struct [.i, .i, .i, .i, .i]) (.t 11) (.t 15)⟩]
theorem slices_Index_pgantryapiStep_r4_d : drawC [0, 0, 0, 6, 14, 31] [
  ⟨some 11, none, .load false true 5 (.t 3)⟩,
  ⟨some 12, none, .mv false (.t 0)⟩,
  ⟨some 13, none, .mv false (.t 5)⟩,
  ⟨some 14, none, .indexAddr 5 (.t 12) (.t 13)⟩,
  ⟨some 15, none, .load false true 5 (.t 14)⟩,
  ⟨some 16, none, .eqv false (.struct [.i, .i, .i, .i, .i]) (.t 11) (.t 15)⟩] = true := by kernel_rfl
def slices_Index_pgantryapiStep_r5 : List LOper := [
  ⟨some 17, none, .mv false (.t 5)⟩,
  ⟨some 4, none, .mv false (.t 17)⟩]
def slices_Index_pgantryapiStep_r6 : List LOper := [
  ⟨some 18, none, .bin .add (.t 8) (.c (.int .i64 1))⟩,
  ⟨some 8, none, .mv false (.t 18)⟩]
def slices_Index_pgantryapiStep_b0 : LCode := (.seq (.ops slices_Index_pgantryapiStep_r2) (.seq (.cond (.t 9) .skip (.exit 0)) (.seq (.block 1 (.seq (.ops slices_Index_pgantryapiStep_r3) (.seq (.dops [0, 0, 0, 6, 14, 31] slices_Index_pgantryapiStep_r4) (.cond (.t 16) (.seq (.ops slices_Index_pgantryapiStep_r5) .ret) .skip)))) (.ops slices_Index_pgantryapiStep_r6))))
def slices_Index_pgantryapiStep_r7 : List LOper := [
  ⟨some 4, none, .mv false (.c (.int .i64 (-1)))⟩]
def slices_Index_pgantryapiStep_f : LFunc := ⟨19, 2, [.tmp 4], (.seq (.ops slices_Index_pgantryapiStep_r0) (.seq (.seq (.ops slices_Index_pgantryapiStep_r1) (.block 0 (.loop [0, 3, 7, 8] slices_Index_pgantryapiStep_b0))) (.seq (.ops slices_Index_pgantryapiStep_r7) .ret)))⟩
def slices_Index_pgantryapiStep_v : VFunc := ⟨slices_Index_pgantryapiStep_f, true, false, false⟩
theorem slices_Index_pgantryapiStep_ok : preFunc Try.prog ⟨[], [], []⟩ Try.f62 [[0, 3, 7, 8]] = some slices_Index_pgantryapiStep_f := by kernel_rfl

-- gantry/act.Form
def act_Form_r0 : List LOper := [
  ⟨some 1, none, .box (.t 0)⟩,
  ⟨some 2, none, .mv false (.c (.bool false))⟩]
def act_Form_r1 : List LOper := [
  ⟨some 6, none, .fieldAddr 2 (.t 1)⟩,
  ⟨some 7, none, .load false false 1 (.t 6)⟩,
  ⟨some 8, none, .bin .geq (.t 7) (.c (.int .i64 0))⟩,
  ⟨some 9, none, .fieldAddr 3 (.t 1)⟩,
  ⟨some 10, none, .load false false 1 (.t 9)⟩,
  ⟨some 11, none, .bin .geq (.t 10) (.c (.int .i64 0))⟩,
  ⟨some 12, none, .fieldAddr 4 (.t 1)⟩,
  ⟨some 13, none, .load false false 1 (.t 12)⟩,
  ⟨some 14, none, .bin .neq (.t 13) (.c (.int .i64 0))⟩,
  ⟨some 3, none, .mv false (.t 8)⟩,
  ⟨some 4, none, .mv false (.t 11)⟩,
  ⟨some 5, none, .mv false (.t 14)⟩]
theorem act_Form_r1_d : drawC [0, 1, 3, 0, 8, 24, 0, 64, 192, 7, 575, 2047] [
  ⟨some 6, none, .fieldAddr 2 (.t 1)⟩,
  ⟨some 7, none, .load false false 1 (.t 6)⟩,
  ⟨some 8, none, .bin .geq (.t 7) (.c (.int .i64 0))⟩,
  ⟨some 9, none, .fieldAddr 3 (.t 1)⟩,
  ⟨some 10, none, .load false false 1 (.t 9)⟩,
  ⟨some 11, none, .bin .geq (.t 10) (.c (.int .i64 0))⟩,
  ⟨some 12, none, .fieldAddr 4 (.t 1)⟩,
  ⟨some 13, none, .load false false 1 (.t 12)⟩,
  ⟨some 14, none, .bin .neq (.t 13) (.c (.int .i64 0))⟩,
  ⟨some 3, none, .mv false (.t 8)⟩,
  ⟨some 4, none, .mv false (.t 11)⟩,
  ⟨some 5, none, .mv false (.t 14)⟩] = true := by kernel_rfl
def act_Form_r2 : List LOper := [
  ⟨some 15, none, .fieldAddr 2 (.t 1)⟩,
  ⟨some 16, none, .load false false 1 (.t 15)⟩,
  ⟨some 17, none, .bin .lss (.t 16) (.c (.int .i64 (-1)))⟩,
  ⟨some 18, none, .mv false (.t 17)⟩,
  ⟨some 19, some (18, false), .fieldAddr 3 (.t 1)⟩,
  ⟨some 20, some (18, false), .load false false 1 (.t 19)⟩,
  ⟨some 21, some (18, false), .bin .lss (.t 20) (.c (.int .i64 (-1)))⟩,
  ⟨some 22, none, .pick (.t 18) (.c (.bool true)) (.t 21)⟩,
  ⟨some 23, none, .mv false (.t 22)⟩,
  ⟨some 24, some (23, false), .fieldAddr 1 (.t 1)⟩,
  ⟨some 25, some (23, false), .load false false 1 (.t 24)⟩,
  ⟨some 26, some (23, false), .bin .lss (.t 25) (.c (.int .i64 0))⟩,
  ⟨some 27, none, .pick (.t 23) (.c (.bool true)) (.t 26)⟩]
def act_Form_r3 : List LOper := [
  ⟨some 2, none, .mv false (.c (.bool false))⟩]
def act_Form_r4 : List LOper := [
  ⟨some 28, none, .fieldAddr 0 (.t 1)⟩,
  ⟨some 29, none, .load false false 1 (.t 28)⟩]
def act_Form_r5 : List LOper := [
  ⟨some 31, none, .bin .eql (.t 29) (.c (.int .i64 0))⟩,
  ⟨some 30, none, .mv false (.t 31)⟩]
def act_Form_r6 : List LOper := [
  ⟨some 32, none, .mv false (.t 3)⟩,
  ⟨some 33, none, .mv false (.t 4)⟩,
  ⟨some 34, none, .eqv true .bool (.t 32) (.t 33)⟩,
  ⟨some 35, none, .mv false (.t 34)⟩,
  ⟨some 36, some (35, true), .mv false (.t 5)⟩,
  ⟨some 37, some (35, true), .un .not (.t 36)⟩,
  ⟨some 38, none, .pick (.t 35) (.t 37) (.c (.bool false))⟩,
  ⟨some 2, none, .mv false (.t 38)⟩]
def act_Form_r7 : List LOper := [
  ⟨some 40, none, .bin .eql (.t 29) (.c (.int .i64 1))⟩,
  ⟨some 39, none, .mv false (.t 40)⟩]
def act_Form_r8 : List LOper := [
  ⟨some 41, none, .bin .eql (.t 29) (.c (.int .i64 3))⟩,
  ⟨some 39, none, .mv false (.t 41)⟩]
def act_Form_r9 : List LOper := [
  ⟨some 42, none, .mv false (.t 3)⟩,
  ⟨some 43, none, .mv false (.t 42)⟩,
  ⟨some 44, some (43, true), .mv false (.t 4)⟩,
  ⟨some 45, some (43, true), .un .not (.t 44)⟩,
  ⟨some 46, none, .pick (.t 43) (.t 45) (.c (.bool false))⟩,
  ⟨some 47, none, .mv false (.t 46)⟩,
  ⟨some 48, some (47, true), .mv false (.t 5)⟩,
  ⟨some 49, some (47, true), .un .not (.t 48)⟩,
  ⟨some 50, none, .pick (.t 47) (.t 49) (.c (.bool false))⟩,
  ⟨some 2, none, .mv false (.t 50)⟩]
def act_Form_r10 : List LOper := [
  ⟨some 52, none, .bin .eql (.t 29) (.c (.int .i64 2))⟩,
  ⟨some 51, none, .mv false (.t 52)⟩]
def act_Form_r11 : List LOper := [
  ⟨some 53, none, .mv false (.t 4)⟩,
  ⟨some 54, none, .mv false (.t 53)⟩,
  ⟨some 55, some (54, true), .mv false (.t 3)⟩,
  ⟨some 56, some (54, true), .un .not (.t 55)⟩,
  ⟨some 57, none, .pick (.t 54) (.t 56) (.c (.bool false))⟩,
  ⟨some 58, none, .mv false (.t 57)⟩,
  ⟨some 59, some (58, true), .mv false (.t 5)⟩,
  ⟨some 60, some (58, true), .un .not (.t 59)⟩,
  ⟨some 61, none, .pick (.t 58) (.t 60) (.c (.bool false))⟩,
  ⟨some 2, none, .mv false (.t 61)⟩]
def act_Form_r12 : List LOper := [
  ⟨some 63, none, .bin .eql (.t 29) (.c (.int .i64 4))⟩,
  ⟨some 62, none, .mv false (.t 63)⟩]
def act_Form_r13 : List LOper := [
  ⟨some 64, none, .mv false (.t 3)⟩,
  ⟨some 65, none, .un .not (.t 64)⟩,
  ⟨some 66, none, .mv false (.t 65)⟩,
  ⟨some 67, some (66, true), .mv false (.t 4)⟩,
  ⟨some 68, some (66, true), .un .not (.t 67)⟩,
  ⟨some 69, none, .pick (.t 66) (.t 68) (.c (.bool false))⟩,
  ⟨some 70, none, .mv false (.t 69)⟩,
  ⟨some 71, some (70, true), .fieldAddr 4 (.t 1)⟩,
  ⟨some 72, some (70, true), .load false false 1 (.t 71)⟩,
  ⟨some 73, some (70, true), .bin .geq (.t 72) (.c (.int .i64 1))⟩,
  ⟨some 74, none, .pick (.t 70) (.t 73) (.c (.bool false))⟩,
  ⟨some 75, none, .mv false (.t 74)⟩,
  ⟨some 76, some (75, true), .fieldAddr 4 (.t 1)⟩,
  ⟨some 77, some (75, true), .load false false 1 (.t 76)⟩,
  ⟨some 78, some (75, true), .bin .leq (.t 77) (.c (.int .i64 2000))⟩,
  ⟨some 79, none, .pick (.t 75) (.t 78) (.c (.bool false))⟩,
  ⟨some 2, none, .mv false (.t 79)⟩]
def act_Form_r14 : List LOper := [
  ⟨some 2, none, .mv false (.c (.bool false))⟩]
def act_Form_f : LFunc := ⟨80, 1, [.tmp 2], (.seq (.ops act_Form_r0) (.seq (.dops [0, 1, 3, 0, 8, 24, 0, 64, 192, 7, 575, 2047] act_Form_r1) (.seq (.seq (.ops act_Form_r2) (.cond (.t 27) (.seq (.ops act_Form_r3) .ret) .skip)) (.seq (.seq (.ops act_Form_r4) (.block 0 (.seq (.ops act_Form_r5) (.cond (.t 30) (.seq (.ops act_Form_r6) .ret) (.seq (.seq (.ops act_Form_r7) (.cond (.t 39) .skip (.ops act_Form_r8))) (.cond (.t 39) (.seq (.ops act_Form_r9) .ret) (.seq (.ops act_Form_r10) (.cond (.t 51) (.seq (.ops act_Form_r11) .ret) (.seq (.ops act_Form_r12) (.cond (.t 62) (.seq (.ops act_Form_r13) .ret) .skip)))))))))) (.seq (.ops act_Form_r14) .ret)))))⟩
def act_Form_v : VFunc := ⟨act_Form_f, true, false, false⟩
theorem act_Form_ok : preFunc Try.prog ⟨[], [], []⟩ Try.f63 [] = some act_Form_f := by kernel_rfl

-- gantry/act.may
def act_may_r0 : List LOper := [
  ⟨some 2, none, .box (.t 0)⟩,
  ⟨some 3, none, .box (.t 1)⟩,
  ⟨some 4, none, .mv false (.c (.int .i64 0))⟩]
def act_may_r1 : List LOper := [
  ⟨some 8, none, .load false true 4 (.t 2)⟩,
  ⟨some 9, none, .fieldAddr 1 (.t 3)⟩,
  ⟨some 10, none, .load false false 1 (.t 9)⟩,
  ⟨some 11, none, .call true 11 [(.t 8), (.t 10)]⟩,
  ⟨some 12, none, .bin .geq (.t 11) (.c (.int .i64 0))⟩,
  ⟨some 13, none, .load false true 4 (.t 2)⟩,
  ⟨some 14, none, .load false true 5 (.t 3)⟩,
  ⟨some 15, none, .call true 68 [(.t 13), (.t 14)]⟩,
  ⟨some 5, none, .mv false (.t 12)⟩,
  ⟨some 6, none, .mv false (.t 15)⟩]
theorem act_may_r1_d : drawC [0, 0, 2, 7, 15, 0, 0, 111, 255, 511] [
  ⟨some 8, none, .load false true 4 (.t 2)⟩,
  ⟨some 9, none, .fieldAddr 1 (.t 3)⟩,
  ⟨some 10, none, .load false false 1 (.t 9)⟩,
  ⟨some 11, none, .call true 11 [(.t 8), (.t 10)]⟩,
  ⟨some 12, none, .bin .geq (.t 11) (.c (.int .i64 0))⟩,
  ⟨some 13, none, .load false true 4 (.t 2)⟩,
  ⟨some 14, none, .load false true 5 (.t 3)⟩,
  ⟨some 15, none, .call true 68 [(.t 13), (.t 14)]⟩,
  ⟨some 5, none, .mv false (.t 12)⟩,
  ⟨some 6, none, .mv false (.t 15)⟩] = true := by kernel_rfl
def act_may_r2 : List LOper := [
  ⟨some 16, none, .mv false (.t 6)⟩,
  ⟨some 17, none, .bin .neq (.t 16) (.c (.int .i64 (-1)))⟩,
  ⟨some 18, none, .mv false (.t 17)⟩,
  ⟨some 19, some (18, true), .fieldAddr 3 (.t 2)⟩,
  ⟨some 20, some (18, true), .load false false 1 (.t 19)⟩,
  ⟨some 21, some (18, true), .fieldAddr 1 (.t 3)⟩,
  ⟨some 22, some (18, true), .load false false 1 (.t 21)⟩,
  ⟨some 23, some (18, true), .indexAddr 1 (.t 20) (.t 22)⟩,
  ⟨some 24, some (18, true), .load false false 1 (.t 23)⟩,
  ⟨some 25, some (18, true), .mv false (.t 6)⟩,
  ⟨some 26, some (18, true), .bin .eql (.t 24) (.t 25)⟩,
  ⟨some 27, none, .pick (.t 18) (.t 26) (.c (.bool false))⟩,
  ⟨some 7, none, .mv false (.t 27)⟩]
def act_may_r3 : List LOper := [
  ⟨some 28, none, .fieldAddr 0 (.t 3)⟩,
  ⟨some 29, none, .load false false 1 (.t 28)⟩]
def act_may_r4 : List LOper := [
  ⟨some 31, none, .bin .eql (.t 29) (.c (.int .i64 0))⟩,
  ⟨some 30, none, .mv false (.t 31)⟩]
def act_may_r5 : List LOper := [
  ⟨some 33, none, .fieldAddr 2 (.t 3)⟩,
  ⟨some 34, none, .load false false 1 (.t 33)⟩,
  ⟨some 35, none, .bin .geq (.t 34) (.c (.int .i64 0))⟩,
  ⟨some 36, none, .mv false (.t 35)⟩,
  ⟨some 37, some (36, true), .mv false (.t 5)⟩,
  ⟨some 38, none, .pick (.t 36) (.t 37) (.c (.bool false))⟩,
  ⟨some 32, none, .mv false (.t 38)⟩]
def act_may_r6 : List LOper := [
  ⟨some 4, none, .mv false (.c (.int .i64 6))⟩]
def act_may_r7 : List LOper := [
  ⟨some 40, none, .mv false (.t 6)⟩,
  ⟨some 41, none, .bin .eql (.t 40) (.c (.int .i64 (-1)))⟩,
  ⟨some 39, none, .mv false (.t 41)⟩]
def act_may_r8 : List LOper := [
  ⟨some 4, none, .mv false (.c (.int .i64 7))⟩]
def act_may_r9 : List LOper := [
  ⟨some 43, none, .mv false (.t 7)⟩,
  ⟨some 42, none, .mv false (.t 43)⟩]
def act_may_r10 : List LOper := [
  ⟨some 4, none, .mv false (.c (.int .i64 5))⟩]
def act_may_r11 : List LOper := [
  ⟨some 45, none, .fieldAddr 3 (.t 2)⟩,
  ⟨some 46, none, .load false false 1 (.t 45)⟩,
  ⟨some 47, none, .mv false (.t 6)⟩,
  ⟨some 48, none, .call false 66 [(.t 46), (.t 47)]⟩,
  ⟨some 44, none, .mv false (.t 48)⟩]
def act_may_r12 : List LOper := [
  ⟨some 4, none, .mv false (.c (.int .i64 10))⟩]
def act_may_r13 : List LOper := [
  ⟨some 50, none, .bin .eql (.t 29) (.c (.int .i64 1))⟩,
  ⟨some 49, none, .mv false (.t 50)⟩]
def act_may_r14 : List LOper := [
  ⟨some 51, none, .bin .eql (.t 29) (.c (.int .i64 3))⟩,
  ⟨some 49, none, .mv false (.t 51)⟩]
def act_may_r15 : List LOper := [
  ⟨some 53, none, .mv false (.t 5)⟩,
  ⟨some 52, none, .mv false (.t 53)⟩]
def act_may_r16 : List LOper := [
  ⟨some 4, none, .mv false (.c (.int .i64 6))⟩]
def act_may_r17 : List LOper := [
  ⟨some 55, none, .mv false (.t 7)⟩,
  ⟨some 56, none, .un .not (.t 55)⟩,
  ⟨some 54, none, .mv false (.t 56)⟩]
def act_may_r18 : List LOper := [
  ⟨some 4, none, .mv false (.c (.int .i64 7))⟩]
def act_may_r19 : List LOper := [
  ⟨some 58, none, .fieldAddr 0 (.t 3)⟩,
  ⟨some 59, none, .load false false 1 (.t 58)⟩,
  ⟨some 60, none, .bin .eql (.t 59) (.c (.int .i64 1))⟩,
  ⟨some 61, none, .mv false (.t 60)⟩,
  ⟨some 62, some (61, true), .fieldAddr 2 (.t 2)⟩,
  ⟨some 63, some (61, true), .load false false 1 (.t 62)⟩,
  ⟨some 64, some (61, true), .fieldAddr 2 (.t 3)⟩,
  ⟨some 65, some (61, true), .load false false 1 (.t 64)⟩,
  ⟨some 66, some (61, true), .indexAddr 1 (.t 63) (.t 65)⟩,
  ⟨some 67, some (61, true), .load false false 1 (.t 66)⟩,
  ⟨some 68, some (61, true), .un .not (.t 67)⟩,
  ⟨some 69, none, .pick (.t 61) (.t 68) (.c (.bool false))⟩,
  ⟨some 57, none, .mv false (.t 69)⟩]
def act_may_r20 : List LOper := [
  ⟨some 4, none, .mv false (.c (.int .i64 18))⟩]
def act_may_r21 : List LOper := [
  ⟨some 71, none, .fieldAddr 0 (.t 3)⟩,
  ⟨some 72, none, .load false false 1 (.t 71)⟩,
  ⟨some 73, none, .bin .eql (.t 72) (.c (.int .i64 3))⟩,
  ⟨some 74, none, .mv false (.t 73)⟩,
  ⟨some 75, some (74, true), .fieldAddr 2 (.t 2)⟩,
  ⟨some 76, some (74, true), .load false false 1 (.t 75)⟩,
  ⟨some 77, some (74, true), .fieldAddr 2 (.t 3)⟩,
  ⟨some 78, some (74, true), .load false false 1 (.t 77)⟩,
  ⟨some 79, some (74, true), .indexAddr 1 (.t 76) (.t 78)⟩,
  ⟨some 80, some (74, true), .load false false 1 (.t 79)⟩,
  ⟨some 81, none, .pick (.t 74) (.t 80) (.c (.bool false))⟩,
  ⟨some 70, none, .mv false (.t 81)⟩]
def act_may_r22 : List LOper := [
  ⟨some 4, none, .mv false (.c (.int .i64 5))⟩]
def act_may_r23 : List LOper := [
  ⟨some 83, none, .bin .eql (.t 29) (.c (.int .i64 2))⟩,
  ⟨some 82, none, .mv false (.t 83)⟩]
def act_may_r24 : List LOper := [
  ⟨some 85, none, .mv false (.t 5)⟩,
  ⟨some 86, none, .un .not (.t 85)⟩,
  ⟨some 87, none, .mv false (.t 86)⟩,
  ⟨some 88, some (87, false), .mv false (.t 7)⟩,
  ⟨some 89, some (87, false), .un .not (.t 88)⟩,
  ⟨some 90, none, .pick (.t 87) (.c (.bool true)) (.t 89)⟩,
  ⟨some 84, none, .mv false (.t 90)⟩]
def act_may_r25 : List LOper := [
  ⟨some 4, none, .mv false (.c (.int .i64 7))⟩]
def act_may_r26 : List LOper := [
  ⟨some 92, none, .load false true 4 (.t 2)⟩,
  ⟨some 93, none, .fieldAddr 3 (.t 3)⟩,
  ⟨some 94, none, .load false false 1 (.t 93)⟩,
  ⟨some 95, none, .call false 67 [(.t 92), (.t 94)]⟩,
  ⟨some 96, none, .bin .geq (.t 95) (.c (.int .i64 0))⟩,
  ⟨some 91, none, .mv false (.t 96)⟩]
def act_may_r27 : List LOper := [
  ⟨some 4, none, .mv false (.c (.int .i64 5))⟩]
def act_may_r28 : List LOper := [
  ⟨some 4, none, .mv false (.c (.int .i64 0))⟩]
def act_may_f : LFunc := ⟨97, 2, [.tmp 4], (.seq (.ops act_may_r0) (.seq (.dops [0, 0, 2, 7, 15, 0, 0, 111, 255, 511] act_may_r1) (.seq (.ops act_may_r2) (.seq (.seq (.ops act_may_r3) (.block 0 (.seq (.ops act_may_r4) (.cond (.t 30) (.block 1 (.seq (.ops act_may_r5) (.cond (.t 32) (.seq (.ops act_may_r6) .ret) (.seq (.ops act_may_r7) (.cond (.t 39) (.seq (.ops act_may_r8) .ret) (.seq (.ops act_may_r9) (.cond (.t 42) (.seq (.ops act_may_r10) .ret) (.seq (.ops act_may_r11) (.cond (.t 44) (.seq (.ops act_may_r12) .ret) .skip))))))))) (.seq (.seq (.ops act_may_r13) (.cond (.t 49) .skip (.ops act_may_r14))) (.cond (.t 49) (.block 2 (.seq (.ops act_may_r15) (.cond (.t 52) (.seq (.ops act_may_r16) .ret) (.seq (.ops act_may_r17) (.cond (.t 54) (.seq (.ops act_may_r18) .ret) (.seq (.ops act_may_r19) (.cond (.t 57) (.seq (.ops act_may_r20) .ret) (.seq (.ops act_may_r21) (.cond (.t 70) (.seq (.ops act_may_r22) .ret) .skip))))))))) (.seq (.ops act_may_r23) (.cond (.t 82) (.block 3 (.seq (.ops act_may_r24) (.cond (.t 84) (.seq (.ops act_may_r25) .ret) (.seq (.ops act_may_r26) (.cond (.t 91) (.seq (.ops act_may_r27) .ret) .skip))))) .skip)))))))) (.seq (.ops act_may_r28) .ret)))))⟩
def act_may_v : VFunc := ⟨act_may_f, true, false, false⟩
theorem act_may_ok : preFunc Try.prog ⟨[], [], [11, 15]⟩ Try.f64 [] = some act_may_f := by kernel_rfl

-- slices.Compare[[]int,int]
def slices_Compare_intint_r0 : List LOper := [
  ⟨some 4, none, .mv false (.c (.int .i64 0))⟩]
def slices_Compare_intint_r1 : List LOper := [
  ⟨some 9, none, .mv false (.t 0)⟩,
  ⟨some 10, none, .lenL (.t 9)⟩,
  ⟨some 11, none, .mv false (.c (.int .i64 0))⟩]
def slices_Compare_intint_r2 : List LOper := [
  ⟨some 12, none, .bin .lss (.t 11) (.t 10)⟩]
def slices_Compare_intint_r3 : List LOper := [
  ⟨some 13, none, .mv false (.t 11)⟩,
  ⟨some 14, none, .indexAddr 1 (.t 9) (.t 11)⟩,
  ⟨some 15, none, .load false false 1 (.t 14)⟩,
  ⟨some 5, none, .mv false (.t 13)⟩,
  ⟨some 6, none, .mv false (.t 15)⟩]
def slices_Compare_intint_r4 : List LOper := [
  ⟨some 16, none, .mv false (.t 5)⟩,
  ⟨some 17, none, .mv false (.t 1)⟩,
  ⟨some 18, none, .lenL (.t 17)⟩,
  ⟨some 19, none, .bin .geq (.t 16) (.t 18)⟩]
def slices_Compare_intint_r5 : List LOper := [
  ⟨some 4, none, .mv false (.c (.int .i64 1))⟩]
def slices_Compare_intint_r6 : List LOper := [
  ⟨some 20, none, .mv false (.t 1)⟩,
  ⟨some 21, none, .mv false (.t 5)⟩,
  ⟨some 22, none, .indexAddr 1 (.t 20) (.t 21)⟩,
  ⟨some 23, none, .load false false 1 (.t 22)⟩,
  ⟨some 7, none, .mv false (.t 23)⟩]
def slices_Compare_intint_r7 : List LOper := [
  ⟨some 24, none, .mv false (.t 6)⟩,
  ⟨some 25, none, .mv false (.t 7)⟩,
  ⟨some 26, none, .call false 78 [(.t 24), (.t 25)]⟩,
  ⟨some 8, none, .mv false (.t 26)⟩]
def slices_Compare_intint_r8 : List LOper := [
  ⟨some 27, none, .mv false (.t 8)⟩,
  ⟨some 28, none, .bin .neq (.t 27) (.c (.int .i64 0))⟩]
def slices_Compare_intint_r9 : List LOper := [
  ⟨some 29, none, .mv false (.t 8)⟩,
  ⟨some 4, none, .mv false (.t 29)⟩]
def slices_Compare_intint_r10 : List LOper := [
  ⟨some 30, none, .bin .add (.t 11) (.c (.int .i64 1))⟩,
  ⟨some 11, none, .mv false (.t 30)⟩]
def slices_Compare_intint_b0 : LCode := (.seq (.ops slices_Compare_intint_r2) (.seq (.cond (.t 12) .skip (.exit 0)) (.seq (.block 1 (.seq (.ops slices_Compare_intint_r3) (.seq (.seq (.ops slices_Compare_intint_r4) (.cond (.t 19) (.seq (.ops slices_Compare_intint_r5) .ret) .skip)) (.seq (.ops slices_Compare_intint_r6) (.seq (.ops slices_Compare_intint_r7) (.seq (.ops slices_Compare_intint_r8) (.cond (.t 28) (.seq (.ops slices_Compare_intint_r9) .ret) .skip))))))) (.ops slices_Compare_intint_r10))))
def slices_Compare_intint_r11 : List LOper := [
  ⟨some 31, none, .mv false (.t 0)⟩,
  ⟨some 32, none, .lenL (.t 31)⟩,
  ⟨some 33, none, .mv false (.t 1)⟩,
  ⟨some 34, none, .lenL (.t 33)⟩,
  ⟨some 35, none, .bin .lss (.t 32) (.t 34)⟩]
def slices_Compare_intint_r12 : List LOper := [
  ⟨some 4, none, .mv false (.c (.int .i64 (-1)))⟩]
def slices_Compare_intint_r13 : List LOper := [
  ⟨some 4, none, .mv false (.c (.int .i64 0))⟩]
def slices_Compare_intint_f : LFunc := ⟨36, 2, [.tmp 4], (.seq (.ops slices_Compare_intint_r0) (.seq (.seq (.ops slices_Compare_intint_r1) (.block 0 (.loop [0, 1, 9, 10, 11] slices_Compare_intint_b0))) (.seq (.seq (.ops slices_Compare_intint_r11) (.cond (.t 35) (.seq (.ops slices_Compare_intint_r12) .ret) .skip)) (.seq (.ops slices_Compare_intint_r13) .ret))))⟩
def slices_Compare_intint_v : VFunc := ⟨slices_Compare_intint_f, true, false, false⟩
theorem slices_Compare_intint_ok : preFunc Try.prog ⟨[], [], []⟩ Try.f65 [[0, 1, 9, 10, 11]] = some slices_Compare_intint_f := by kernel_rfl

-- slices.Contains[[]int,int]
def slices_Contains_intint_r0 : List LOper := [
  ⟨some 4, none, .mv false (.c (.bool false))⟩]
def slices_Contains_intint_r1 : List LOper := [
  ⟨some 5, none, .mv false (.t 0)⟩,
  ⟨some 6, none, .mv false (.t 1)⟩,
  ⟨some 7, none, .call false 43 [(.t 5), (.t 6)]⟩,
  ⟨some 8, none, .bin .geq (.t 7) (.c (.int .i64 0))⟩,
  ⟨some 4, none, .mv false (.t 8)⟩]
def slices_Contains_intint_f : LFunc := ⟨9, 2, [.tmp 4], (.seq (.ops slices_Contains_intint_r0) (.seq (.ops slices_Contains_intint_r1) .ret))⟩
def slices_Contains_intint_v : VFunc := ⟨slices_Contains_intint_f, true, false, false⟩
theorem slices_Contains_intint_ok : preFunc Try.prog ⟨[], [], []⟩ Try.f66 [] = some slices_Contains_intint_f := by kernel_rfl

-- gantry/act.In
def act_In_r0 : List LOper := [
  ⟨some 2, none, .box (.t 0)⟩,
  ⟨some 4, none, .mv false (.c (.int .i64 0))⟩]
def act_In_r1 : List LOper := [
  ⟨some 5, none, .mv false (.t 1)⟩,
  ⟨some 6, none, .bin .lss (.t 5) (.c (.int .i64 0))⟩]
def act_In_r2 : List LOper := [
  ⟨some 4, none, .mv false (.c (.int .i64 (-1)))⟩]
def act_In_r3 : List LOper := [
  ⟨some 7, none, .fieldAddr 1 (.t 2)⟩,
  ⟨some 8, none, .load false false 1 (.t 7)⟩,
  ⟨some 9, none, .mv false (.t 1)⟩,
  ⟨some 10, none, .call false 43 [(.t 8), (.t 9)]⟩,
  ⟨some 4, none, .mv false (.t 10)⟩]
def act_In_f : LFunc := ⟨11, 2, [.tmp 4], (.seq (.ops act_In_r0) (.seq (.seq (.ops act_In_r1) (.cond (.t 6) (.seq (.ops act_In_r2) .ret) .skip)) (.seq (.ops act_In_r3) .ret)))⟩
def act_In_v : VFunc := ⟨act_In_f, true, false, false⟩
theorem act_In_ok : preFunc Try.prog ⟨[], [], []⟩ Try.f67 [] = some act_In_f := by kernel_rfl

-- gantry/act.target
def act_target_r0 : List LOper := [
  ⟨some 2, none, .box (.t 0)⟩,
  ⟨some 3, none, .box (.t 1)⟩,
  ⟨some 4, none, .mv false (.c (.int .i64 0))⟩]
def act_target_r1 : List LOper := [
  ⟨some 5, none, .fieldAddr 2 (.t 3)⟩,
  ⟨some 6, none, .load false false 1 (.t 5)⟩,
  ⟨some 7, none, .bin .geq (.t 6) (.c (.int .i64 0))⟩]
def act_target_r2 : List LOper := [
  ⟨some 8, none, .load false true 4 (.t 2)⟩,
  ⟨some 9, none, .fieldAddr 2 (.t 3)⟩,
  ⟨some 10, none, .load false false 1 (.t 9)⟩,
  ⟨some 11, none, .call false 79 [(.t 8), (.t 10)]⟩,
  ⟨some 4, none, .mv false (.t 11)⟩]
def act_target_r3 : List LOper := [
  ⟨some 12, none, .fieldAddr 3 (.t 3)⟩,
  ⟨some 13, none, .load false false 1 (.t 12)⟩,
  ⟨some 4, none, .mv false (.t 13)⟩]
def act_target_f : LFunc := ⟨14, 2, [.tmp 4], (.seq (.ops act_target_r0) (.seq (.seq (.ops act_target_r1) (.cond (.t 7) (.seq (.ops act_target_r2) .ret) .skip)) (.seq (.ops act_target_r3) .ret)))⟩
def act_target_v : VFunc := ⟨act_target_f, true, false, false⟩
theorem act_target_ok : preFunc Try.prog ⟨[], [], []⟩ Try.f68 [] = some act_target_f := by kernel_rfl

-- gantry/gantmake.digits
def gantmake_digits_r0 : List LOper := [
  ⟨some 2, none, .mv false (.c (.str []))⟩]
def gantmake_digits_r1 : List LOper := [
  ⟨some 3, none, .mv true (.c (.nilslice))⟩]
def gantmake_digits_r2 : List LOper := [
  ⟨some 4, none, .mv false (.t 0)⟩,
  ⟨some 5, none, .bin .gtr (.t 4) (.c (.int .i64 0))⟩]
def gantmake_digits_r3 : List LOper := [
  ⟨some 8, none, .mv true (.t 3)⟩,
  ⟨some 9, none, .mv false (.t 0)⟩,
  ⟨some 10, none, .bin .rem (.t 9) (.c (.int .i64 256))⟩,
  ⟨some 11, none, .conv .u8 (.t 10)⟩,
  ⟨some 12, none, .bslice false 1 1 [.int .u8 0] [(0, 1, (.t 11))]⟩,
  ⟨some 13, none, .append true 1 1 (.t 8) (.t 12)⟩,
  ⟨some 3, none, .mv true (.t 13)⟩]
def gantmake_digits_r4 : List LOper := [
  ⟨some 6, none, .mv false (.t 0)⟩,
  ⟨some 7, none, .bin .quo (.t 6) (.c (.int .i64 256))⟩,
  ⟨some 0, none, .mv false (.t 7)⟩]
def gantmake_digits_b0 : LCode := (.seq (.seq (.ops gantmake_digits_r2) (.cond (.t 5) .skip (.exit 0))) (.seq (.block 1 (.ops gantmake_digits_r3)) (.ops gantmake_digits_r4)))
def gantmake_digits_r5 : List LOper := [
  ⟨some 14, none, .mv false (.t 3)⟩,
  ⟨some 15, none, .call false 80 [(.t 14)]⟩]
def gantmake_digits_r6 : List LOper := [
  ⟨some 16, none, .mv false (.t 3)⟩,
  ⟨some 17, none, .b2s (.t 16)⟩,
  ⟨some 2, none, .mv false (.t 17)⟩]
def gantmake_digits_f : LFunc := ⟨18, 1, [.tmp 2], (.seq (.ops gantmake_digits_r0) (.seq (.ops gantmake_digits_r1) (.seq (.block 0 (.loop [0, 3] gantmake_digits_b0)) (.seq (.ops gantmake_digits_r5) (.seq (.ops gantmake_digits_r6) .ret)))))⟩
def gantmake_digits_v : VFunc := ⟨gantmake_digits_f, true, false, false⟩
theorem gantmake_digits_ok : preFunc Try.prog ⟨[3, 8, 13], [], []⟩ Try.f70 [[0, 3]] = some gantmake_digits_f := by kernel_rfl

-- slices.Contains[[]gantry/fact.Fact,gantry/fact.Fact]
def slices_Contains_gantryfactFact_r0 : List LOper := [
  ⟨some 3, none, .box (.t 1)⟩,
  ⟨some 4, none, .mv false (.c (.bool false))⟩]
def slices_Contains_gantryfactFact_r1 : List LOper := [
  ⟨some 5, none, .mv false (.t 0)⟩,
  ⟨some 6, none, .load false true 3 (.t 3)⟩,
  ⟨some 7, none, .call false 92 [(.t 5), (.t 6)]⟩,
  ⟨some 8, none, .bin .geq (.t 7) (.c (.int .i64 0))⟩,
  ⟨some 4, none, .mv false (.t 8)⟩]
def slices_Contains_gantryfactFact_f : LFunc := ⟨9, 2, [.tmp 4], (.seq (.ops slices_Contains_gantryfactFact_r0) (.seq (.ops slices_Contains_gantryfactFact_r1) .ret))⟩
def slices_Contains_gantryfactFact_v : VFunc := ⟨slices_Contains_gantryfactFact_f, true, false, false⟩
theorem slices_Contains_gantryfactFact_ok : preFunc Try.prog ⟨[], [], []⟩ Try.f74 [] = some slices_Contains_gantryfactFact_f := by kernel_rfl

-- slices.IndexFunc[[]gantry/fact.Fact,gantry/fact.Fact]
def slices_IndexFunc_gantryfactFact_r0 : List LOper := [
  ⟨some 4, none, .mv false (.c (.int .i64 0))⟩]
def slices_IndexFunc_gantryfactFact_r1 : List LOper := [
  ⟨some 6, none, .mv false (.t 0)⟩,
  ⟨some 7, none, .lenL (.t 6)⟩,
  ⟨some 8, none, .mv false (.c (.int .i64 0))⟩]
def slices_IndexFunc_gantryfactFact_r2 : List LOper := [
  ⟨some 9, none, .bin .lss (.t 8) (.t 7)⟩]
def slices_IndexFunc_gantryfactFact_r3 : List LOper := [
  ⟨some 10, none, .mv false (.t 8)⟩,
  ⟨some 5, none, .mv false (.t 10)⟩]
def slices_IndexFunc_gantryfactFact_r4 : List LOper := [
  ⟨some 11, none, .mv false (.t 1)⟩,
  ⟨some 12, none, .mv false (.t 0)⟩,
  ⟨some 13, none, .mv false (.t 5)⟩,
  ⟨some 14, none, .indexAddr 3 (.t 12) (.t 13)⟩,
  ⟨some 15, none, .load false true 3 (.t 14)⟩,
  ⟨some 16, none, .callv (.t 11) [(.t 15)]⟩]
def slices_IndexFunc_gantryfactFact_r5 : List LOper := [
  ⟨some 17, none, .mv false (.t 5)⟩,
  ⟨some 4, none, .mv false (.t 17)⟩]
def slices_IndexFunc_gantryfactFact_r6 : List LOper := [
  ⟨some 18, none, .bin .add (.t 8) (.c (.int .i64 1))⟩,
  ⟨some 8, none, .mv false (.t 18)⟩]
def slices_IndexFunc_gantryfactFact_b0 : LCode := (.seq (.ops slices_IndexFunc_gantryfactFact_r2) (.seq (.cond (.t 9) .skip (.exit 0)) (.seq (.block 1 (.seq (.ops slices_IndexFunc_gantryfactFact_r3) (.seq (.ops slices_IndexFunc_gantryfactFact_r4) (.cond (.t 16) (.seq (.ops slices_IndexFunc_gantryfactFact_r5) .ret) .skip)))) (.ops slices_IndexFunc_gantryfactFact_r6))))
def slices_IndexFunc_gantryfactFact_r7 : List LOper := [
  ⟨some 4, none, .mv false (.c (.int .i64 (-1)))⟩]
def slices_IndexFunc_gantryfactFact_f : LFunc := ⟨19, 2, [.tmp 4], (.seq (.ops slices_IndexFunc_gantryfactFact_r0) (.seq (.seq (.ops slices_IndexFunc_gantryfactFact_r1) (.block 0 (.loop [0, 1, 7, 8] slices_IndexFunc_gantryfactFact_b0))) (.seq (.ops slices_IndexFunc_gantryfactFact_r7) .ret)))⟩
def slices_IndexFunc_gantryfactFact_v : VFunc := ⟨slices_IndexFunc_gantryfactFact_f, true, false, false⟩
theorem slices_IndexFunc_gantryfactFact_ok : preFunc Try.prog ⟨[], [], []⟩ Try.f75 [[0, 1, 7, 8]] = some slices_IndexFunc_gantryfactFact_f := by kernel_rfl

-- slices.IndexFunc[[]gantry/api.Step,gantry/api.Step]
def slices_IndexFunc_pgantryapiStep_r0 : List LOper := [
  ⟨some 4, none, .mv false (.c (.int .i64 0))⟩]
def slices_IndexFunc_pgantryapiStep_r1 : List LOper := [
  ⟨some 6, none, .mv false (.t 0)⟩,
  ⟨some 7, none, .lenL (.t 6)⟩,
  ⟨some 8, none, .mv false (.c (.int .i64 0))⟩]
def slices_IndexFunc_pgantryapiStep_r2 : List LOper := [
  ⟨some 9, none, .bin .lss (.t 8) (.t 7)⟩]
def slices_IndexFunc_pgantryapiStep_r3 : List LOper := [
  ⟨some 10, none, .mv false (.t 8)⟩,
  ⟨some 5, none, .mv false (.t 10)⟩]
def slices_IndexFunc_pgantryapiStep_r4 : List LOper := [
  ⟨some 11, none, .mv false (.t 1)⟩,
  ⟨some 12, none, .mv false (.t 0)⟩,
  ⟨some 13, none, .mv false (.t 5)⟩,
  ⟨some 14, none, .indexAddr 5 (.t 12) (.t 13)⟩,
  ⟨some 15, none, .load false true 5 (.t 14)⟩,
  ⟨some 16, none, .callv (.t 11) [(.t 15)]⟩]
def slices_IndexFunc_pgantryapiStep_r5 : List LOper := [
  ⟨some 17, none, .mv false (.t 5)⟩,
  ⟨some 4, none, .mv false (.t 17)⟩]
def slices_IndexFunc_pgantryapiStep_r6 : List LOper := [
  ⟨some 18, none, .bin .add (.t 8) (.c (.int .i64 1))⟩,
  ⟨some 8, none, .mv false (.t 18)⟩]
def slices_IndexFunc_pgantryapiStep_b0 : LCode := (.seq (.ops slices_IndexFunc_pgantryapiStep_r2) (.seq (.cond (.t 9) .skip (.exit 0)) (.seq (.block 1 (.seq (.ops slices_IndexFunc_pgantryapiStep_r3) (.seq (.ops slices_IndexFunc_pgantryapiStep_r4) (.cond (.t 16) (.seq (.ops slices_IndexFunc_pgantryapiStep_r5) .ret) .skip)))) (.ops slices_IndexFunc_pgantryapiStep_r6))))
def slices_IndexFunc_pgantryapiStep_r7 : List LOper := [
  ⟨some 4, none, .mv false (.c (.int .i64 (-1)))⟩]
def slices_IndexFunc_pgantryapiStep_f : LFunc := ⟨19, 2, [.tmp 4], (.seq (.ops slices_IndexFunc_pgantryapiStep_r0) (.seq (.seq (.ops slices_IndexFunc_pgantryapiStep_r1) (.block 0 (.loop [0, 1, 7, 8] slices_IndexFunc_pgantryapiStep_b0))) (.seq (.ops slices_IndexFunc_pgantryapiStep_r7) .ret)))⟩
def slices_IndexFunc_pgantryapiStep_v : VFunc := ⟨slices_IndexFunc_pgantryapiStep_f, true, false, false⟩
theorem slices_IndexFunc_pgantryapiStep_ok : preFunc Try.prog ⟨[], [], []⟩ Try.f76 [[0, 1, 7, 8]] = some slices_IndexFunc_pgantryapiStep_f := by kernel_rfl

-- cmp.Compare[int]
def cmp_Compare_int_r0 : List LOper := [
  ⟨some 4, none, .mv false (.c (.int .i64 0))⟩]
def cmp_Compare_int_r1 : List LOper := [
  ⟨some 7, none, .mv false (.t 0)⟩,
  ⟨some 8, none, .call false 101 [(.t 7)]⟩,
  ⟨some 5, none, .mv false (.t 8)⟩]
def cmp_Compare_int_r2 : List LOper := [
  ⟨some 9, none, .mv false (.t 1)⟩,
  ⟨some 10, none, .call false 101 [(.t 9)]⟩,
  ⟨some 6, none, .mv false (.t 10)⟩]
def cmp_Compare_int_r3 : List LOper := [
  ⟨some 11, none, .mv false (.t 5)⟩]
def cmp_Compare_int_r4 : List LOper := [
  ⟨some 12, none, .mv false (.t 6)⟩]
def cmp_Compare_int_r5 : List LOper := [
  ⟨some 4, none, .mv false (.c (.int .i64 0))⟩]
def cmp_Compare_int_r6 : List LOper := [
  ⟨some 4, none, .mv false (.c (.int .i64 (-1)))⟩]
def cmp_Compare_int_r7 : List LOper := [
  ⟨some 13, none, .mv false (.t 6)⟩]
def cmp_Compare_int_r8 : List LOper := [
  ⟨some 4, none, .mv false (.c (.int .i64 1))⟩]
def cmp_Compare_int_r9 : List LOper := [
  ⟨some 14, none, .mv false (.t 0)⟩,
  ⟨some 15, none, .mv false (.t 1)⟩,
  ⟨some 16, none, .bin .lss (.t 14) (.t 15)⟩]
def cmp_Compare_int_r10 : List LOper := [
  ⟨some 4, none, .mv false (.c (.int .i64 (-1)))⟩]
def cmp_Compare_int_r11 : List LOper := [
  ⟨some 17, none, .mv false (.t 0)⟩,
  ⟨some 18, none, .mv false (.t 1)⟩,
  ⟨some 19, none, .bin .gtr (.t 17) (.t 18)⟩]
def cmp_Compare_int_r12 : List LOper := [
  ⟨some 4, none, .mv false (.c (.int .i64 1))⟩]
def cmp_Compare_int_r13 : List LOper := [
  ⟨some 4, none, .mv false (.c (.int .i64 0))⟩]
def cmp_Compare_int_f : LFunc := ⟨20, 2, [.tmp 4], (.seq (.ops cmp_Compare_int_r0) (.seq (.ops cmp_Compare_int_r1) (.seq (.ops cmp_Compare_int_r2) (.seq (.seq (.ops cmp_Compare_int_r3) (.cond (.t 11) (.seq (.seq (.ops cmp_Compare_int_r4) (.cond (.t 12) (.seq (.ops cmp_Compare_int_r5) .ret) .skip)) (.seq (.ops cmp_Compare_int_r6) .ret)) .skip)) (.seq (.seq (.ops cmp_Compare_int_r7) (.cond (.t 13) (.seq (.ops cmp_Compare_int_r8) .ret) .skip)) (.seq (.seq (.ops cmp_Compare_int_r9) (.cond (.t 16) (.seq (.ops cmp_Compare_int_r10) .ret) .skip)) (.seq (.seq (.ops cmp_Compare_int_r11) (.cond (.t 19) (.seq (.ops cmp_Compare_int_r12) .ret) .skip)) (.seq (.ops cmp_Compare_int_r13) .ret))))))))⟩
def cmp_Compare_int_v : VFunc := ⟨cmp_Compare_int_f, true, false, false⟩
theorem cmp_Compare_int_ok : preFunc Try.prog ⟨[], [], []⟩ Try.f78 [] = some cmp_Compare_int_f := by kernel_rfl

-- gantry/act.Where
def act_Where_r0 : List LOper := [
  ⟨some 2, none, .box (.t 0)⟩,
  ⟨some 4, none, .mv false (.c (.int .i64 0))⟩]
def act_Where_r1 : List LOper := [
  ⟨some 6, none, .mv false (.t 1)⟩,
  ⟨some 7, none, .bin .lss (.t 6) (.c (.int .i64 0))⟩,
  ⟨some 8, none, .mv false (.t 7)⟩,
  ⟨some 9, some (8, false), .mv false (.t 1)⟩,
  ⟨some 10, some (8, false), .fieldAddr 1 (.t 2)⟩,
  ⟨some 11, some (8, false), .load false false 1 (.t 10)⟩,
  ⟨some 12, some (8, false), .lenL (.t 11)⟩,
  ⟨some 13, some (8, false), .bin .geq (.t 9) (.t 12)⟩,
  ⟨some 14, none, .pick (.t 8) (.c (.bool true)) (.t 13)⟩,
  ⟨some 15, none, .mv false (.t 14)⟩,
  ⟨some 16, some (15, false), .fieldAddr 1 (.t 2)⟩,
  ⟨some 17, some (15, false), .load false false 1 (.t 16)⟩,
  ⟨some 18, some (15, false), .mv false (.t 1)⟩,
  ⟨some 19, some (15, false), .indexAddr 1 (.t 17) (.t 18)⟩,
  ⟨some 20, some (15, false), .load false false 1 (.t 19)⟩,
  ⟨some 21, some (15, false), .bin .lss (.t 20) (.c (.int .i64 (-1)))⟩,
  ⟨some 22, none, .pick (.t 15) (.c (.bool true)) (.t 21)⟩,
  ⟨some 5, none, .mv false (.t 22)⟩]
def act_Where_r2 : List LOper := [
  ⟨some 4, none, .mv false (.c (.int .i64 (-1)))⟩]
def act_Where_r3 : List LOper := [
  ⟨some 24, none, .fieldAddr 1 (.t 2)⟩,
  ⟨some 25, none, .load false false 1 (.t 24)⟩,
  ⟨some 26, none, .mv false (.t 1)⟩,
  ⟨some 27, none, .indexAddr 1 (.t 25) (.t 26)⟩,
  ⟨some 28, none, .load false false 1 (.t 27)⟩,
  ⟨some 29, none, .bin .eql (.t 28) (.c (.int .i64 (-1)))⟩,
  ⟨some 23, none, .mv false (.t 29)⟩]
def act_Where_r4 : List LOper := [
  ⟨some 30, none, .mv false (.t 1)⟩,
  ⟨some 31, none, .bin .add (.c (.int .i64 8)) (.t 30)⟩,
  ⟨some 4, none, .mv false (.t 31)⟩]
def act_Where_r5 : List LOper := [
  ⟨some 32, none, .fieldAddr 1 (.t 2)⟩,
  ⟨some 33, none, .load false false 1 (.t 32)⟩,
  ⟨some 34, none, .mv false (.t 1)⟩,
  ⟨some 35, none, .indexAddr 1 (.t 33) (.t 34)⟩,
  ⟨some 36, none, .load false false 1 (.t 35)⟩,
  ⟨some 4, none, .mv false (.t 36)⟩]
def act_Where_f : LFunc := ⟨37, 2, [.tmp 4], (.seq (.ops act_Where_r0) (.seq (.block 0 (.seq (.ops act_Where_r1) (.cond (.t 5) (.seq (.ops act_Where_r2) .ret) (.seq (.ops act_Where_r3) (.cond (.t 23) (.seq (.ops act_Where_r4) .ret) .skip))))) (.seq (.ops act_Where_r5) .ret)))⟩
def act_Where_v : VFunc := ⟨act_Where_f, true, false, false⟩
theorem act_Where_ok : preFunc Try.prog ⟨[], [], []⟩ Try.f79 [] = some act_Where_f := by kernel_rfl

-- slices.Reverse[[]byte,byte]
def slices_Reverse_bytebyte_r0 : List LOper := [
  ⟨some 4, none, .mv false (.t 0)⟩,
  ⟨some 5, none, .lenL (.t 4)⟩,
  ⟨some 6, none, .bin .sub (.t 5) (.c (.int .i64 1))⟩,
  ⟨some 2, none, .mv false (.c (.int .i64 0))⟩,
  ⟨some 3, none, .mv false (.t 6)⟩]
def slices_Reverse_bytebyte_r1 : List LOper := [
  ⟨some 7, none, .mv false (.t 2)⟩,
  ⟨some 8, none, .mv false (.t 3)⟩,
  ⟨some 9, none, .bin .lss (.t 7) (.t 8)⟩]
def slices_Reverse_bytebyte_r2 : List LOper := [
  ⟨some 14, none, .mv false (.t 0)⟩,
  ⟨some 15, none, .mv false (.t 2)⟩,
  ⟨some 16, none, .mv false (.t 0)⟩,
  ⟨some 17, none, .mv false (.t 3)⟩,
  ⟨some 18, none, .mv false (.t 0)⟩,
  ⟨some 19, none, .mv false (.t 3)⟩,
  ⟨some 20, none, .indexAddr 1 (.t 18) (.t 19)⟩,
  ⟨some 21, none, .load false false 1 (.t 20)⟩,
  ⟨some 22, none, .mv false (.t 0)⟩,
  ⟨some 23, none, .mv false (.t 2)⟩,
  ⟨some 24, none, .indexAddr 1 (.t 22) (.t 23)⟩,
  ⟨some 25, none, .load false false 1 (.t 24)⟩,
  ⟨some 26, none, .indexAddr 1 (.t 14) (.t 15)⟩,
  ⟨none, none, .store 1 (.t 26) (.t 21)⟩,
  ⟨some 27, none, .indexAddr 1 (.t 16) (.t 17)⟩,
  ⟨none, none, .store 1 (.t 27) (.t 25)⟩]
theorem slices_Reverse_bytebyte_r2_d : drawC [0, 0, 0, 0, 0, 0, 48, 112, 0, 0, 768, 1792, 4083, 8179, 16383, 32767] [
  ⟨some 14, none, .mv false (.t 0)⟩,
  ⟨some 15, none, .mv false (.t 2)⟩,
  ⟨some 16, none, .mv false (.t 0)⟩,
  ⟨some 17, none, .mv false (.t 3)⟩,
  ⟨some 18, none, .mv false (.t 0)⟩,
  ⟨some 19, none, .mv false (.t 3)⟩,
  ⟨some 20, none, .indexAddr 1 (.t 18) (.t 19)⟩,
  ⟨some 21, none, .load false false 1 (.t 20)⟩,
  ⟨some 22, none, .mv false (.t 0)⟩,
  ⟨some 23, none, .mv false (.t 2)⟩,
  ⟨some 24, none, .indexAddr 1 (.t 22) (.t 23)⟩,
  ⟨some 25, none, .load false false 1 (.t 24)⟩,
  ⟨some 26, none, .indexAddr 1 (.t 14) (.t 15)⟩,
  ⟨none, none, .store 1 (.t 26) (.t 21)⟩,
  ⟨some 27, none, .indexAddr 1 (.t 16) (.t 17)⟩,
  ⟨none, none, .store 1 (.t 27) (.t 25)⟩] = true := by kernel_rfl
def slices_Reverse_bytebyte_r3 : List LOper := [
  ⟨some 10, none, .mv false (.t 2)⟩,
  ⟨some 11, none, .bin .add (.t 10) (.c (.int .i64 1))⟩,
  ⟨some 12, none, .mv false (.t 3)⟩,
  ⟨some 13, none, .bin .sub (.t 12) (.c (.int .i64 1))⟩,
  ⟨some 2, none, .mv false (.t 11)⟩,
  ⟨some 3, none, .mv false (.t 13)⟩]
def slices_Reverse_bytebyte_b0 : LCode := (.seq (.seq (.ops slices_Reverse_bytebyte_r1) (.cond (.t 9) .skip (.exit 0))) (.seq (.block 1 (.dops [0, 0, 0, 0, 0, 0, 48, 112, 0, 0, 768, 1792, 4083, 8179, 16383, 32767] slices_Reverse_bytebyte_r2)) (.ops slices_Reverse_bytebyte_r3)))
def slices_Reverse_bytebyte_f : LFunc := ⟨28, 1, [], (.seq (.ops slices_Reverse_bytebyte_r0) (.block 0 (.loop [0, 2, 3] slices_Reverse_bytebyte_b0)))⟩
def slices_Reverse_bytebyte_v : VFunc := ⟨slices_Reverse_bytebyte_f, true, false, false⟩
theorem slices_Reverse_bytebyte_ok : preFunc Try.prog ⟨[], [], []⟩ Try.f80 [[0, 2, 3]] = some slices_Reverse_bytebyte_f := by kernel_rfl

-- slices.Index[[]gantry/fact.Fact,gantry/fact.Fact]
def slices_Index_gantryfactFact_r0 : List LOper := [
  ⟨some 3, none, .box (.t 1)⟩,
  ⟨some 4, none, .mv false (.c (.int .i64 0))⟩]
def slices_Index_gantryfactFact_r1 : List LOper := [
  ⟨some 6, none, .mv false (.t 0)⟩,
  ⟨some 7, none, .lenL (.t 6)⟩,
  ⟨some 8, none, .mv false (.c (.int .i64 0))⟩]
def slices_Index_gantryfactFact_r2 : List LOper := [
  ⟨some 9, none, .bin .lss (.t 8) (.t 7)⟩]
def slices_Index_gantryfactFact_r3 : List LOper := [
  ⟨some 10, none, .mv false (.t 8)⟩,
  ⟨some 5, none, .mv false (.t 10)⟩]
def slices_Index_gantryfactFact_r4 : List LOper := [
  ⟨some 11, none, .load false true 3 (.t 3)⟩,
  ⟨some 12, none, .mv false (.t 0)⟩,
  ⟨some 13, none, .mv false (.t 5)⟩,
  ⟨some 14, none, .indexAddr 3 (.t 12) (.t 13)⟩,
  ⟨some 15, none, .load false true 3 (.t 14)⟩,
  ⟨some 16, none, .eqv false (.struct [.i, .i, .i]) (.t 11) (.t 15)⟩]
theorem slices_Index_gantryfactFact_r4_d : drawC [0, 0, 0, 6, 14, 31] [
  ⟨some 11, none, .load false true 3 (.t 3)⟩,
  ⟨some 12, none, .mv false (.t 0)⟩,
  ⟨some 13, none, .mv false (.t 5)⟩,
  ⟨some 14, none, .indexAddr 3 (.t 12) (.t 13)⟩,
  ⟨some 15, none, .load false true 3 (.t 14)⟩,
  ⟨some 16, none, .eqv false (.struct [.i, .i, .i]) (.t 11) (.t 15)⟩] = true := by kernel_rfl
def slices_Index_gantryfactFact_r5 : List LOper := [
  ⟨some 17, none, .mv false (.t 5)⟩,
  ⟨some 4, none, .mv false (.t 17)⟩]
def slices_Index_gantryfactFact_r6 : List LOper := [
  ⟨some 18, none, .bin .add (.t 8) (.c (.int .i64 1))⟩,
  ⟨some 8, none, .mv false (.t 18)⟩]
def slices_Index_gantryfactFact_b0 : LCode := (.seq (.ops slices_Index_gantryfactFact_r2) (.seq (.cond (.t 9) .skip (.exit 0)) (.seq (.block 1 (.seq (.ops slices_Index_gantryfactFact_r3) (.seq (.dops [0, 0, 0, 6, 14, 31] slices_Index_gantryfactFact_r4) (.cond (.t 16) (.seq (.ops slices_Index_gantryfactFact_r5) .ret) .skip)))) (.ops slices_Index_gantryfactFact_r6))))
def slices_Index_gantryfactFact_r7 : List LOper := [
  ⟨some 4, none, .mv false (.c (.int .i64 (-1)))⟩]
def slices_Index_gantryfactFact_f : LFunc := ⟨19, 2, [.tmp 4], (.seq (.ops slices_Index_gantryfactFact_r0) (.seq (.seq (.ops slices_Index_gantryfactFact_r1) (.block 0 (.loop [0, 3, 7, 8] slices_Index_gantryfactFact_b0))) (.seq (.ops slices_Index_gantryfactFact_r7) .ret)))⟩
def slices_Index_gantryfactFact_v : VFunc := ⟨slices_Index_gantryfactFact_f, true, false, false⟩
theorem slices_Index_gantryfactFact_ok : preFunc Try.prog ⟨[], [], []⟩ Try.f92 [[0, 3, 7, 8]] = some slices_Index_gantryfactFact_f := by kernel_rfl

-- cmp.isNaN[int]
def cmp_isNaN_int_r0 : List LOper := [
  ⟨some 2, none, .mv false (.c (.bool false))⟩]
def cmp_isNaN_int_r1 : List LOper := [
  ⟨some 3, none, .mv false (.t 0)⟩,
  ⟨some 4, none, .mv false (.t 0)⟩,
  ⟨some 5, none, .bin .neq (.t 3) (.t 4)⟩,
  ⟨some 2, none, .mv false (.t 5)⟩]
def cmp_isNaN_int_f : LFunc := ⟨6, 1, [.tmp 2], (.seq (.ops cmp_isNaN_int_r0) (.seq (.ops cmp_isNaN_int_r1) .ret))⟩
def cmp_isNaN_int_v : VFunc := ⟨cmp_isNaN_int_f, true, false, false⟩
theorem cmp_isNaN_int_ok : preFunc Try.prog ⟨[], [], []⟩ Try.f101 [] = some cmp_isNaN_int_f := by kernel_rfl

-- slices.SortFunc[[]gantry/fact.Fact,gantry/fact.Fact]
def slices_SortFunc_gantryfactFact_f : LFunc := sortF 3 54
def slices_SortFunc_gantryfactFact_v : VFunc := ⟨slices_SortFunc_gantryfactFact_f, false, false, true⟩

-- slices.Concat[[]gantry/fact.Fact,gantry/fact.Fact]
def slices_Concat_gantryfactFact_f : LFunc := Vg.G3d.concatF 3 24
def slices_Concat_gantryfactFact_v : VFunc := ⟨slices_Concat_gantryfactFact_f, true, false, false⟩

-- slices.SortFunc[[]gantry/api.Step,gantry/api.Step]
def slices_SortFunc_pgantryapiStep_f : LFunc := sortF 5 35
def slices_SortFunc_pgantryapiStep_v : VFunc := ⟨slices_SortFunc_pgantryapiStep_f, false, false, true⟩

abbrev n_gantkeep4_ActAll : Nat := 6
abbrev n_gantkeep4_ActKeeps : Nat := 7
abbrev n_gantkeep4_ActFacts : Nat := 8
abbrev n_gantkeep4_World : Nat := 9
abbrev n_gantkeep4_Small : Nat := 10
abbrev n_act_Holds : Nat := 11
abbrev n_act_Copy : Nat := 14
abbrev n_act_Same : Nat := 15
abbrev n_gantkeep4_acted : Nat := 16
abbrev n_fact_Of : Nat := 17
abbrev n_gantkeep4_Facts : Nat := 18
abbrev n_fact_Clash : Nat := 19
abbrev n_gantkeep4_facted : Nat := 20
abbrev n_fact_Sound : Nat := 21
abbrev n_fact_Join : Nat := 22
abbrev n_fact_Meet : Nat := 23
abbrev n_fact_Minus : Nat := 24
abbrev n_gantkeep4_FactLaws_1 : Nat := 25
abbrev n_slices_Equal_gantryfactFact : Nat := 26
abbrev n_fact_IsSet : Nat := 27
abbrev n_fact_Within : Nat := 28
abbrev n_fact_Apply : Nat := 29
abbrev n_gantmake_Below : Nat := 30
abbrev n_act_Steps : Nat := 31
abbrev n_slices_Contains_pgantryapiStep : Nat := 32
abbrev n_act_Can : Nat := 33
abbrev n_slices_IsSortedFunc_pgantryapiStep : Nat := 34
abbrev n_act_Compare : Nat := 35
abbrev n_act_Check : Nat := 36
abbrev n_act_Facts : Nat := 37
abbrev n_act_Do : Nat := 38
abbrev n_gantkeep4_pick : Nat := 39
abbrev n_gantmake_Stream_Next : Nat := 41
abbrev n_gantmake_Of : Nat := 42
abbrev n_slices_Index_intint : Nat := 43
abbrev n_act_Held : Nat := 44
abbrev n_slices_Clone_intint : Nat := 47
abbrev n_slices_Clone_boolbool : Nat := 48
abbrev n_slices_Equal_intint : Nat := 49
abbrev n_slices_Equal_boolbool : Nat := 50
abbrev n_act_Start : Nat := 51
abbrev n_fact_Valid : Nat := 52
abbrev n_fact_Compare : Nat := 54
abbrev n_slices_Compact_gantryfactFact : Nat := 55
abbrev n_fact_Has : Nat := 56
abbrev n_slices_ContainsFunc_gantryfactFact : Nat := 57
abbrev n_fact_Within_1 : Nat := 58
abbrev n_slices_DeleteFunc_pgantryapiStep : Nat := 59
abbrev n_act_Steps_1 : Nat := 60
abbrev n_slices_Index_pgantryapiStep : Nat := 62
abbrev n_act_Form : Nat := 63
abbrev n_act_may : Nat := 64
abbrev n_slices_Compare_intint : Nat := 65
abbrev n_slices_Contains_intint : Nat := 66
abbrev n_act_In : Nat := 67
abbrev n_act_target : Nat := 68
abbrev n_gantmake_digits : Nat := 70
abbrev n_slices_Contains_gantryfactFact : Nat := 74
abbrev n_slices_IndexFunc_gantryfactFact : Nat := 75
abbrev n_slices_IndexFunc_pgantryapiStep : Nat := 76
abbrev n_cmp_Compare_int : Nat := 78
abbrev n_act_Where : Nat := 79
abbrev n_slices_Reverse_bytebyte : Nat := 80
abbrev n_slices_Index_gantryfactFact : Nat := 92
abbrev n_cmp_isNaN_int : Nat := 101
abbrev n_slices_SortFunc_gantryfactFact : Nat := 53
abbrev n_slices_Concat_gantryfactFact : Nat := 40
abbrev n_slices_SortFunc_pgantryapiStep : Nat := 61
def vp : VProg
  | 6 => some gantkeep4_ActAll_v
  | 7 => some gantkeep4_ActKeeps_v
  | 8 => some gantkeep4_ActFacts_v
  | 9 => some gantkeep4_World_v
  | 10 => some gantkeep4_Small_v
  | 11 => some act_Holds_v
  | 14 => some act_Copy_v
  | 15 => some act_Same_v
  | 16 => some gantkeep4_acted_v
  | 17 => some fact_Of_v
  | 18 => some gantkeep4_Facts_v
  | 19 => some fact_Clash_v
  | 20 => some gantkeep4_facted_v
  | 21 => some fact_Sound_v
  | 22 => some fact_Join_v
  | 23 => some fact_Meet_v
  | 24 => some fact_Minus_v
  | 25 => some gantkeep4_FactLaws_1_v
  | 26 => some slices_Equal_gantryfactFact_v
  | 27 => some fact_IsSet_v
  | 28 => some fact_Within_v
  | 29 => some fact_Apply_v
  | 30 => some gantmake_Below_v
  | 31 => some act_Steps_v
  | 32 => some slices_Contains_pgantryapiStep_v
  | 33 => some act_Can_v
  | 34 => some slices_IsSortedFunc_pgantryapiStep_v
  | 35 => some act_Compare_v
  | 36 => some act_Check_v
  | 37 => some act_Facts_v
  | 38 => some act_Do_v
  | 39 => some gantkeep4_pick_v
  | 41 => some gantmake_Stream_Next_v
  | 42 => some gantmake_Of_v
  | 43 => some slices_Index_intint_v
  | 44 => some act_Held_v
  | 47 => some slices_Clone_intint_v
  | 48 => some slices_Clone_boolbool_v
  | 49 => some slices_Equal_intint_v
  | 50 => some slices_Equal_boolbool_v
  | 51 => some act_Start_v
  | 52 => some fact_Valid_v
  | 54 => some fact_Compare_v
  | 55 => some slices_Compact_gantryfactFact_v
  | 56 => some fact_Has_v
  | 57 => some slices_ContainsFunc_gantryfactFact_v
  | 58 => some fact_Within_1_v
  | 59 => some slices_DeleteFunc_pgantryapiStep_v
  | 60 => some act_Steps_1_v
  | 62 => some slices_Index_pgantryapiStep_v
  | 63 => some act_Form_v
  | 64 => some act_may_v
  | 65 => some slices_Compare_intint_v
  | 66 => some slices_Contains_intint_v
  | 67 => some act_In_v
  | 68 => some act_target_v
  | 70 => some gantmake_digits_v
  | 74 => some slices_Contains_gantryfactFact_v
  | 75 => some slices_IndexFunc_gantryfactFact_v
  | 76 => some slices_IndexFunc_pgantryapiStep_v
  | 78 => some cmp_Compare_int_v
  | 79 => some act_Where_v
  | 80 => some slices_Reverse_bytebyte_v
  | 92 => some slices_Index_gantryfactFact_v
  | 101 => some cmp_isNaN_int_v
  | 53 => some slices_SortFunc_gantryfactFact_v
  | 40 => some slices_Concat_gantryfactFact_v
  | 61 => some slices_SortFunc_pgantryapiStep_v
  | _ => none
def lp : LProg := fun f => if f = 47 then some slices_Clone_intint_f else if f = 48 then some slices_Clone_boolbool_f else (vp f).map (·.fn)
theorem lp_ok : PSound false Try.prog lp := by
  intro f lf h
  unfold lp at h
  split at h
  · rename_i e; subst e; cases h; exact .inl ⟨_, _, _, Try.func47, slices_Clone_intint_ok⟩
  split at h
  · rename_i e; subst e; cases h; exact .inl ⟨_, _, _, Try.func48, slices_Clone_boolbool_ok⟩
  unfold vp at h
  split at h
  · cases h; exact .inl ⟨_, _, _, Try.func6, gantkeep4_ActAll_ok⟩
  · cases h; exact .inl ⟨_, _, _, Try.func7, gantkeep4_ActKeeps_ok⟩
  · cases h; exact .inl ⟨_, _, _, Try.func8, gantkeep4_ActFacts_ok⟩
  · cases h; exact .inl ⟨_, _, _, Try.func9, gantkeep4_World_ok⟩
  · cases h; exact .inl ⟨_, _, _, Try.func10, gantkeep4_Small_ok⟩
  · cases h; exact .inl ⟨_, _, _, Try.func11, act_Holds_ok⟩
  · cases h; exact .inl ⟨_, _, _, Try.func14, act_Copy_ok⟩
  · cases h; exact .inl ⟨_, _, _, Try.func15, act_Same_ok⟩
  · cases h; exact .inl ⟨_, _, _, Try.func16, gantkeep4_acted_ok⟩
  · cases h; exact .inl ⟨_, _, _, Try.func17, fact_Of_ok⟩
  · cases h; exact .inl ⟨_, _, _, Try.func18, gantkeep4_Facts_ok⟩
  · cases h; exact .inl ⟨_, _, _, Try.func19, fact_Clash_ok⟩
  · cases h; exact .inl ⟨_, _, _, Try.func20, gantkeep4_facted_ok⟩
  · cases h; exact .inl ⟨_, _, _, Try.func21, fact_Sound_ok⟩
  · cases h; exact .inl ⟨_, _, _, Try.func22, fact_Join_ok⟩
  · cases h; exact .inl ⟨_, _, _, Try.func23, fact_Meet_ok⟩
  · cases h; exact .inl ⟨_, _, _, Try.func24, fact_Minus_ok⟩
  · cases h; exact .inl ⟨_, _, _, Try.func25, gantkeep4_FactLaws_1_ok⟩
  · cases h; exact .inl ⟨_, _, _, Try.func26, slices_Equal_gantryfactFact_ok⟩
  · cases h; exact .inl ⟨_, _, _, Try.func27, fact_IsSet_ok⟩
  · cases h; exact .inl ⟨_, _, _, Try.func28, fact_Within_ok⟩
  · cases h; exact .inl ⟨_, _, _, Try.func29, fact_Apply_ok⟩
  · cases h; exact .inl ⟨_, _, _, Try.func30, gantmake_Below_ok⟩
  · cases h; exact .inl ⟨_, _, _, Try.func31, act_Steps_ok⟩
  · cases h; exact .inl ⟨_, _, _, Try.func32, slices_Contains_pgantryapiStep_ok⟩
  · cases h; exact .inl ⟨_, _, _, Try.func33, act_Can_ok⟩
  · cases h; exact .inl ⟨_, _, _, Try.func34, slices_IsSortedFunc_pgantryapiStep_ok⟩
  · cases h; exact .inl ⟨_, _, _, Try.func35, act_Compare_ok⟩
  · cases h; exact .inl ⟨_, _, _, Try.func36, act_Check_ok⟩
  · cases h; exact .inl ⟨_, _, _, Try.func37, act_Facts_ok⟩
  · cases h; exact .inl ⟨_, _, _, Try.func38, act_Do_ok⟩
  · cases h; exact .inl ⟨_, _, _, Try.func39, gantkeep4_pick_ok⟩
  · cases h; exact .inl ⟨_, _, _, Try.func41, gantmake_Stream_Next_ok⟩
  · cases h; exact .inl ⟨_, _, _, Try.func42, gantmake_Of_ok⟩
  · cases h; exact .inl ⟨_, _, _, Try.func43, slices_Index_intint_ok⟩
  · cases h; exact .inl ⟨_, _, _, Try.func44, act_Held_ok⟩
  · exact absurd rfl (by assumption)
  · exact absurd rfl (by assumption)
  · cases h; exact .inl ⟨_, _, _, Try.func49, slices_Equal_intint_ok⟩
  · cases h; exact .inl ⟨_, _, _, Try.func50, slices_Equal_boolbool_ok⟩
  · cases h; exact .inl ⟨_, _, _, Try.func51, act_Start_ok⟩
  · cases h; exact .inl ⟨_, _, _, Try.func52, fact_Valid_ok⟩
  · cases h; exact .inl ⟨_, _, _, Try.func54, fact_Compare_ok⟩
  · cases h; exact .inl ⟨_, _, _, Try.func55, slices_Compact_gantryfactFact_ok⟩
  · cases h; exact .inl ⟨_, _, _, Try.func56, fact_Has_ok⟩
  · cases h; exact .inl ⟨_, _, _, Try.func57, slices_ContainsFunc_gantryfactFact_ok⟩
  · cases h; exact .inl ⟨_, _, _, Try.func58, fact_Within_1_ok⟩
  · cases h; exact .inl ⟨_, _, _, Try.func59, slices_DeleteFunc_pgantryapiStep_ok⟩
  · cases h; exact .inl ⟨_, _, _, Try.func60, act_Steps_1_ok⟩
  · cases h; exact .inl ⟨_, _, _, Try.func62, slices_Index_pgantryapiStep_ok⟩
  · cases h; exact .inl ⟨_, _, _, Try.func63, act_Form_ok⟩
  · cases h; exact .inl ⟨_, _, _, Try.func64, act_may_ok⟩
  · cases h; exact .inl ⟨_, _, _, Try.func65, slices_Compare_intint_ok⟩
  · cases h; exact .inl ⟨_, _, _, Try.func66, slices_Contains_intint_ok⟩
  · cases h; exact .inl ⟨_, _, _, Try.func67, act_In_ok⟩
  · cases h; exact .inl ⟨_, _, _, Try.func68, act_target_ok⟩
  · cases h; exact .inl ⟨_, _, _, Try.func70, gantmake_digits_ok⟩
  · cases h; exact .inl ⟨_, _, _, Try.func74, slices_Contains_gantryfactFact_ok⟩
  · cases h; exact .inl ⟨_, _, _, Try.func75, slices_IndexFunc_gantryfactFact_ok⟩
  · cases h; exact .inl ⟨_, _, _, Try.func76, slices_IndexFunc_pgantryapiStep_ok⟩
  · cases h; exact .inl ⟨_, _, _, Try.func78, cmp_Compare_int_ok⟩
  · cases h; exact .inl ⟨_, _, _, Try.func79, act_Where_ok⟩
  · cases h; exact .inl ⟨_, _, _, Try.func80, slices_Reverse_bytebyte_ok⟩
  · cases h; exact .inl ⟨_, _, _, Try.func92, slices_Index_gantryfactFact_ok⟩
  · cases h; exact .inl ⟨_, _, _, Try.func101, cmp_isNaN_int_ok⟩
  · cases h; exact .inr (sortFact_ext false)
  · cases h; exact .inr (Vg.G3d.concat_ok rfl)
  · cases h; exact .inr (sortStep_ext false)
  · cases h
theorem vp_link (f : FuncId) : Link (lp f) (vp f) := by
  unfold lp
  split
  · rename_i e; subst e; exact .cloneM false false 1 8
  split
  · rename_i e; subst e; exact .cloneM false false 1 1
  exact .of_eq rfl
theorem law {f : FuncId} {args : List VV} {h1 : VHeap} (hE : callVL vp 0 f args [] = some (.bool true, h1)) {w : World} {ρ : List Lg.Place} {lh : Heap} (R : Rep (m := false) ⟨w⟩ ρ lh w) {vs : Array Value} {largs : List LV} (hv : VRs ρ vs.toList largs) (hr : RVs (fun _ => none) [] lh args largs) :
    Calls Try.prog f vs w fun e w' => e = .returned (.bool true) ∧ Below w.heap.size w w' := law_true lp_ok vp_link hE R hv hr
end Vg.G3
