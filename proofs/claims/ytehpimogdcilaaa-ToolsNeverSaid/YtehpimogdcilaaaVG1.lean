import Derived.Test.YtehpimogdcilaaaVVgLib
import Derived.Test.YtehpimogdcilaaaProg
import Derived.KernelRfl
namespace Vg.G1
open Go Lg Go.RowKit
open Go.Proofs
-- gantry/gantkeep4.OrderTight
def gantkeep4_OrderTight_r0 : List LOper := [
  ⟨some 4, none, .mv false (.c (.bool false))⟩]
def gantkeep4_OrderTight_r1 : List LOper := [
  ⟨some 20, none, .mv false (.t 0)⟩,
  ⟨some 21, none, .call false 8 [(.t 20)]⟩,
  ⟨some 5, none, .mv false (.t 21)⟩]
def gantkeep4_OrderTight_r2 : List LOper := [
  ⟨some 22, none, .mv false (.t 1)⟩,
  ⟨some 23, none, .build [.nilslice] [(0, 1, (.t 22))]⟩,
  ⟨some 24, none, .box (.t 23)⟩,
  ⟨some 6, none, .mv false (.t 24)⟩]
def gantkeep4_OrderTight_r3 : List LOper := [
  ⟨some 25, none, .mv false (.t 5)⟩,
  ⟨some 26, none, .lenL (.t 25)⟩,
  ⟨some 27, none, .make true 1 8 [.int .i64 0] (.t 26) (.t 26)⟩,
  ⟨some 7, none, .mv false (.t 27)⟩]
def gantkeep4_OrderTight_r4 : List LOper := [
  ⟨some 28, none, .mv false (.t 7)⟩,
  ⟨some 29, none, .lenL (.t 28)⟩,
  ⟨some 30, none, .mv false (.c (.int .i64 0))⟩]
def gantkeep4_OrderTight_r5 : List LOper := [
  ⟨some 31, none, .bin .lss (.t 30) (.t 29)⟩]
def gantkeep4_OrderTight_r6 : List LOper := [
  ⟨some 32, none, .mv false (.t 30)⟩,
  ⟨some 8, none, .mv false (.t 32)⟩]
def gantkeep4_OrderTight_r7 : List LOper := [
  ⟨some 33, none, .mv false (.t 7)⟩,
  ⟨some 34, none, .mv false (.t 8)⟩,
  ⟨some 35, none, .mv false (.t 6)⟩,
  ⟨some 36, none, .call false 9 [(.t 35), (.c (.int .i64 30))]⟩,
  ⟨some 37, none, .indexAddr 1 (.t 33) (.t 34)⟩,
  ⟨none, none, .store 1 (.t 37) (.t 36)⟩]
def gantkeep4_OrderTight_r8 : List LOper := [
  ⟨some 38, none, .bin .add (.t 30) (.c (.int .i64 1))⟩,
  ⟨some 30, none, .mv false (.t 38)⟩]
def gantkeep4_OrderTight_b0 : LCode := (.seq (.ops gantkeep4_OrderTight_r5) (.seq (.cond (.t 31) .skip (.exit 0)) (.seq (.block 1 (.seq (.ops gantkeep4_OrderTight_r6) (.ops gantkeep4_OrderTight_r7))) (.ops gantkeep4_OrderTight_r8))))
def gantkeep4_OrderTight_r9 : List LOper := [
  ⟨some 40, none, .mv false (.t 5)⟩,
  ⟨some 41, none, .mv false (.t 7)⟩,
  ⟨some 42, none, .call false 10 [(.t 40), (.t 41)]⟩,
  ⟨some 39, none, .mv false (.t 42)⟩,
  ⟨some 43, none, .extract 0 (.t 39)⟩,
  ⟨some 44, none, .extract 1 (.t 39)⟩,
  ⟨some 45, none, .extract 2 (.t 39)⟩,
  ⟨some 9, none, .mv false (.t 43)⟩,
  ⟨some 10, none, .mv false (.t 44)⟩,
  ⟨some 11, none, .mv false (.t 45)⟩]
def gantkeep4_OrderTight_r10 : List LOper := [
  ⟨some 47, none, .mv false (.t 5)⟩,
  ⟨some 48, none, .mv false (.t 7)⟩,
  ⟨some 49, none, .call false 11 [(.t 47), (.t 48)]⟩,
  ⟨some 46, none, .mv false (.t 49)⟩,
  ⟨some 50, none, .extract 0 (.t 46)⟩,
  ⟨some 51, none, .extract 1 (.t 46)⟩,
  ⟨some 12, none, .mv false (.t 50)⟩,
  ⟨some 13, none, .mv false (.t 51)⟩]
def gantkeep4_OrderTight_r11 : List LOper := [
  ⟨some 52, none, .call false 12 []⟩,
  ⟨some 53, none, .un .not (.t 52)⟩,
  ⟨some 54, none, .mv false (.t 53)⟩,
  ⟨some 55, some (54, false), .mv false (.t 11)⟩,
  ⟨some 56, some (54, false), .bin .neq (.t 55) (.c (.int .i64 0))⟩,
  ⟨some 57, none, .pick (.t 54) (.c (.bool true)) (.t 56)⟩,
  ⟨some 58, none, .mv false (.t 57)⟩,
  ⟨some 59, some (58, false), .mv false (.t 13)⟩,
  ⟨some 60, some (58, false), .bin .neq (.t 59) (.c (.int .i64 0))⟩,
  ⟨some 61, none, .pick (.t 58) (.c (.bool true)) (.t 60)⟩,
  ⟨some 62, none, .mv false (.t 61)⟩,
  ⟨some 63, some (62, false), .mv false (.t 9)⟩,
  ⟨some 64, some (62, false), .lenL (.t 63)⟩,
  ⟨some 65, some (62, false), .mv false (.t 5)⟩,
  ⟨some 66, some (62, false), .lenL (.t 65)⟩,
  ⟨some 67, some (62, false), .bin .neq (.t 64) (.t 66)⟩,
  ⟨some 68, none, .pick (.t 62) (.c (.bool true)) (.t 67)⟩,
  ⟨some 69, none, .mv false (.t 68)⟩,
  ⟨some 70, some (69, false), .mv false (.t 12)⟩,
  ⟨some 71, some (69, false), .lenL (.t 70)⟩,
  ⟨some 72, some (69, false), .mv false (.t 5)⟩,
  ⟨some 73, some (69, false), .lenL (.t 72)⟩,
  ⟨some 74, some (69, false), .bin .neq (.t 71) (.t 73)⟩,
  ⟨some 75, none, .pick (.t 69) (.c (.bool true)) (.t 74)⟩]
def gantkeep4_OrderTight_r12 : List LOper := [
  ⟨some 4, none, .mv false (.c (.bool false))⟩]
def gantkeep4_OrderTight_r13 : List LOper := [
  ⟨some 14, none, .mv false (.c (.int .i64 0))⟩]
def gantkeep4_OrderTight_r14 : List LOper := [
  ⟨some 76, none, .mv false (.t 5)⟩,
  ⟨some 77, none, .lenL (.t 76)⟩,
  ⟨some 78, none, .mv false (.c (.int .i64 0))⟩]
def gantkeep4_OrderTight_r15 : List LOper := [
  ⟨some 79, none, .bin .lss (.t 78) (.t 77)⟩]
def gantkeep4_OrderTight_r16 : List LOper := [
  ⟨some 80, none, .mv false (.t 78)⟩,
  ⟨some 81, none, .indexAddr 1 (.t 76) (.t 78)⟩,
  ⟨some 82, none, .load false false 1 (.t 81)⟩,
  ⟨some 15, none, .mv false (.t 80)⟩,
  ⟨some 16, none, .mv false (.t 82)⟩]
def gantkeep4_OrderTight_r17 : List LOper := [
  ⟨some 17, none, .mv false (.c (.int .i64 0))⟩]
def gantkeep4_OrderTight_r18 : List LOper := [
  ⟨some 83, none, .mv false (.t 16)⟩,
  ⟨some 84, none, .lenL (.t 83)⟩,
  ⟨some 85, none, .mv false (.c (.int .i64 0))⟩]
def gantkeep4_OrderTight_r19 : List LOper := [
  ⟨some 86, none, .bin .lss (.t 85) (.t 84)⟩]
def gantkeep4_OrderTight_r20 : List LOper := [
  ⟨some 87, none, .indexAddr 1 (.t 83) (.t 85)⟩,
  ⟨some 88, none, .load false false 1 (.t 87)⟩,
  ⟨some 19, none, .mv false (.t 88)⟩]
def gantkeep4_OrderTight_r21 : List LOper := [
  ⟨some 89, none, .mv false (.t 17)⟩,
  ⟨some 90, none, .mv false (.t 9)⟩,
  ⟨some 91, none, .mv false (.t 19)⟩,
  ⟨some 92, none, .indexAddr 1 (.t 90) (.t 91)⟩,
  ⟨some 93, none, .load false false 1 (.t 92)⟩,
  ⟨some 94, none, .mv false (.t 7)⟩,
  ⟨some 95, none, .mv false (.t 19)⟩,
  ⟨some 96, none, .indexAddr 1 (.t 94) (.t 95)⟩,
  ⟨some 97, none, .load false false 1 (.t 96)⟩,
  ⟨some 98, none, .bin .add (.t 93) (.t 97)⟩,
  ⟨some 99, none, .max2 [(.t 89), (.t 98)]⟩,
  ⟨some 17, none, .mv false (.t 99)⟩]
theorem gantkeep4_OrderTight_r21_d : drawC [0, 0, 0, 6, 14, 0, 0, 96, 224, 510, 1023, 2047] [
  ⟨some 89, none, .mv false (.t 17)⟩,
  ⟨some 90, none, .mv false (.t 9)⟩,
  ⟨some 91, none, .mv false (.t 19)⟩,
  ⟨some 92, none, .indexAddr 1 (.t 90) (.t 91)⟩,
  ⟨some 93, none, .load false false 1 (.t 92)⟩,
  ⟨some 94, none, .mv false (.t 7)⟩,
  ⟨some 95, none, .mv false (.t 19)⟩,
  ⟨some 96, none, .indexAddr 1 (.t 94) (.t 95)⟩,
  ⟨some 97, none, .load false false 1 (.t 96)⟩,
  ⟨some 98, none, .bin .add (.t 93) (.t 97)⟩,
  ⟨some 99, none, .max2 [(.t 89), (.t 98)]⟩,
  ⟨some 17, none, .mv false (.t 99)⟩] = true := by kernel_rfl
def gantkeep4_OrderTight_r22 : List LOper := [
  ⟨some 100, none, .mv false (.t 12)⟩,
  ⟨some 101, none, .mv false (.t 19)⟩,
  ⟨some 102, none, .indexAddr 1 (.t 100) (.t 101)⟩,
  ⟨some 103, none, .load false false 1 (.t 102)⟩,
  ⟨some 104, none, .mv false (.t 7)⟩,
  ⟨some 105, none, .mv false (.t 19)⟩,
  ⟨some 106, none, .indexAddr 1 (.t 104) (.t 105)⟩,
  ⟨some 107, none, .load false false 1 (.t 106)⟩,
  ⟨some 108, none, .bin .add (.t 103) (.t 107)⟩,
  ⟨some 109, none, .mv false (.t 12)⟩,
  ⟨some 110, none, .mv false (.t 15)⟩,
  ⟨some 111, none, .indexAddr 1 (.t 109) (.t 110)⟩,
  ⟨some 112, none, .load false false 1 (.t 111)⟩,
  ⟨some 113, none, .bin .gtr (.t 108) (.t 112)⟩]
theorem gantkeep4_OrderTight_r22_d : drawC [0, 0, 3, 7, 0, 0, 48, 112, 255, 0, 0, 1536, 3584, 8191] [
  ⟨some 100, none, .mv false (.t 12)⟩,
  ⟨some 101, none, .mv false (.t 19)⟩,
  ⟨some 102, none, .indexAddr 1 (.t 100) (.t 101)⟩,
  ⟨some 103, none, .load false false 1 (.t 102)⟩,
  ⟨some 104, none, .mv false (.t 7)⟩,
  ⟨some 105, none, .mv false (.t 19)⟩,
  ⟨some 106, none, .indexAddr 1 (.t 104) (.t 105)⟩,
  ⟨some 107, none, .load false false 1 (.t 106)⟩,
  ⟨some 108, none, .bin .add (.t 103) (.t 107)⟩,
  ⟨some 109, none, .mv false (.t 12)⟩,
  ⟨some 110, none, .mv false (.t 15)⟩,
  ⟨some 111, none, .indexAddr 1 (.t 109) (.t 110)⟩,
  ⟨some 112, none, .load false false 1 (.t 111)⟩,
  ⟨some 113, none, .bin .gtr (.t 108) (.t 112)⟩] = true := by kernel_rfl
def gantkeep4_OrderTight_r23 : List LOper := [
  ⟨some 4, none, .mv false (.c (.bool false))⟩]
def gantkeep4_OrderTight_r24 : List LOper := [
  ⟨some 114, none, .bin .add (.t 85) (.c (.int .i64 1))⟩,
  ⟨some 85, none, .mv false (.t 114)⟩]
def gantkeep4_OrderTight_b2 : LCode := (.seq (.ops gantkeep4_OrderTight_r19) (.seq (.cond (.t 86) .skip (.exit 4)) (.seq (.block 5 (.seq (.ops gantkeep4_OrderTight_r20) (.seq (.dops [0, 0, 0, 6, 14, 0, 0, 96, 224, 510, 1023, 2047] gantkeep4_OrderTight_r21) (.seq (.dops [0, 0, 3, 7, 0, 0, 48, 112, 255, 0, 0, 1536, 3584, 8191] gantkeep4_OrderTight_r22) (.cond (.t 113) (.seq (.ops gantkeep4_OrderTight_r23) .ret) .skip))))) (.ops gantkeep4_OrderTight_r24))))
def gantkeep4_OrderTight_r25 : List LOper := [
  ⟨some 115, none, .mv false (.t 9)⟩,
  ⟨some 116, none, .mv false (.t 15)⟩,
  ⟨some 117, none, .indexAddr 1 (.t 115) (.t 116)⟩,
  ⟨some 118, none, .load false false 1 (.t 117)⟩,
  ⟨some 119, none, .mv false (.t 17)⟩,
  ⟨some 120, none, .bin .neq (.t 118) (.t 119)⟩,
  ⟨some 121, none, .mv false (.t 120)⟩,
  ⟨some 122, some (121, false), .mv false (.t 12)⟩,
  ⟨some 123, some (121, false), .mv false (.t 15)⟩,
  ⟨some 124, some (121, false), .indexAddr 1 (.t 122) (.t 123)⟩,
  ⟨some 125, some (121, false), .load false false 1 (.t 124)⟩,
  ⟨some 126, some (121, false), .mv false (.t 9)⟩,
  ⟨some 127, some (121, false), .mv false (.t 15)⟩,
  ⟨some 128, some (121, false), .indexAddr 1 (.t 126) (.t 127)⟩,
  ⟨some 129, some (121, false), .load false false 1 (.t 128)⟩,
  ⟨some 130, some (121, false), .bin .lss (.t 125) (.t 129)⟩,
  ⟨some 131, none, .pick (.t 121) (.c (.bool true)) (.t 130)⟩,
  ⟨some 132, none, .mv false (.t 131)⟩,
  ⟨some 133, some (132, false), .mv false (.t 12)⟩,
  ⟨some 134, some (132, false), .mv false (.t 15)⟩,
  ⟨some 135, some (132, false), .indexAddr 1 (.t 133) (.t 134)⟩,
  ⟨some 136, some (132, false), .load false false 1 (.t 135)⟩,
  ⟨some 137, some (132, false), .mv false (.t 7)⟩,
  ⟨some 138, some (132, false), .mv false (.t 15)⟩,
  ⟨some 139, some (132, false), .indexAddr 1 (.t 137) (.t 138)⟩,
  ⟨some 140, some (132, false), .load false false 1 (.t 139)⟩,
  ⟨some 141, some (132, false), .bin .add (.t 136) (.t 140)⟩,
  ⟨some 142, some (132, false), .mv false (.t 10)⟩,
  ⟨some 143, some (132, false), .bin .gtr (.t 141) (.t 142)⟩,
  ⟨some 144, none, .pick (.t 132) (.c (.bool true)) (.t 143)⟩]
theorem gantkeep4_OrderTight_r25_d : drawC [0, 0, 3, 7, 0, 31, 63, 127, 127, 511, 1023, 127, 127, 6271, 14463, 32767, 65535, 131071, 262143, 262143, 1048575, 2097151, 262143, 262143, 12845055, 29622271, 67108863, 262143, 268435455, 536870911] [
  ⟨some 115, none, .mv false (.t 9)⟩,
  ⟨some 116, none, .mv false (.t 15)⟩,
  ⟨some 117, none, .indexAddr 1 (.t 115) (.t 116)⟩,
  ⟨some 118, none, .load false false 1 (.t 117)⟩,
  ⟨some 119, none, .mv false (.t 17)⟩,
  ⟨some 120, none, .bin .neq (.t 118) (.t 119)⟩,
  ⟨some 121, none, .mv false (.t 120)⟩,
  ⟨some 122, some (121, false), .mv false (.t 12)⟩,
  ⟨some 123, some (121, false), .mv false (.t 15)⟩,
  ⟨some 124, some (121, false), .indexAddr 1 (.t 122) (.t 123)⟩,
  ⟨some 125, some (121, false), .load false false 1 (.t 124)⟩,
  ⟨some 126, some (121, false), .mv false (.t 9)⟩,
  ⟨some 127, some (121, false), .mv false (.t 15)⟩,
  ⟨some 128, some (121, false), .indexAddr 1 (.t 126) (.t 127)⟩,
  ⟨some 129, some (121, false), .load false false 1 (.t 128)⟩,
  ⟨some 130, some (121, false), .bin .lss (.t 125) (.t 129)⟩,
  ⟨some 131, none, .pick (.t 121) (.c (.bool true)) (.t 130)⟩,
  ⟨some 132, none, .mv false (.t 131)⟩,
  ⟨some 133, some (132, false), .mv false (.t 12)⟩,
  ⟨some 134, some (132, false), .mv false (.t 15)⟩,
  ⟨some 135, some (132, false), .indexAddr 1 (.t 133) (.t 134)⟩,
  ⟨some 136, some (132, false), .load false false 1 (.t 135)⟩,
  ⟨some 137, some (132, false), .mv false (.t 7)⟩,
  ⟨some 138, some (132, false), .mv false (.t 15)⟩,
  ⟨some 139, some (132, false), .indexAddr 1 (.t 137) (.t 138)⟩,
  ⟨some 140, some (132, false), .load false false 1 (.t 139)⟩,
  ⟨some 141, some (132, false), .bin .add (.t 136) (.t 140)⟩,
  ⟨some 142, some (132, false), .mv false (.t 10)⟩,
  ⟨some 143, some (132, false), .bin .gtr (.t 141) (.t 142)⟩,
  ⟨some 144, none, .pick (.t 132) (.c (.bool true)) (.t 143)⟩] = true := by kernel_rfl
def gantkeep4_OrderTight_r26 : List LOper := [
  ⟨some 4, none, .mv false (.c (.bool false))⟩]
def gantkeep4_OrderTight_r27 : List LOper := [
  ⟨some 145, none, .mv false (.t 14)⟩,
  ⟨some 146, none, .mv false (.t 17)⟩,
  ⟨some 147, none, .mv false (.t 7)⟩,
  ⟨some 148, none, .mv false (.t 15)⟩,
  ⟨some 149, none, .indexAddr 1 (.t 147) (.t 148)⟩,
  ⟨some 150, none, .load false false 1 (.t 149)⟩,
  ⟨some 151, none, .bin .add (.t 146) (.t 150)⟩,
  ⟨some 152, none, .max2 [(.t 145), (.t 151)]⟩,
  ⟨some 14, none, .mv false (.t 152)⟩]
def gantkeep4_OrderTight_r28 : List LOper := [
  ⟨some 153, none, .bin .add (.t 78) (.c (.int .i64 1))⟩,
  ⟨some 78, none, .mv false (.t 153)⟩]
def gantkeep4_OrderTight_b1 : LCode := (.seq (.ops gantkeep4_OrderTight_r15) (.seq (.cond (.t 79) .skip (.exit 2)) (.seq (.block 3 (.seq (.ops gantkeep4_OrderTight_r16) (.seq (.ops gantkeep4_OrderTight_r17) (.seq (.seq (.ops gantkeep4_OrderTight_r18) (.block 4 (.loop [7, 9, 10, 12, 14, 15, 17, 76, 77, 78, 83, 84, 85] gantkeep4_OrderTight_b2))) (.seq (.seq (.dops [0, 0, 3, 7, 0, 31, 63, 127, 127, 511, 1023, 127, 127, 6271, 14463, 32767, 65535, 131071, 262143, 262143, 1048575, 2097151, 262143, 262143, 12845055, 29622271, 67108863, 262143, 268435455, 536870911] gantkeep4_OrderTight_r25) (.cond (.t 144) (.seq (.ops gantkeep4_OrderTight_r26) .ret) .skip)) (.ops gantkeep4_OrderTight_r27)))))) (.ops gantkeep4_OrderTight_r28))))
def gantkeep4_OrderTight_r29 : List LOper := [
  ⟨some 154, none, .mv false (.t 14)⟩,
  ⟨some 155, none, .mv false (.t 10)⟩,
  ⟨some 156, none, .bin .eql (.t 154) (.t 155)⟩,
  ⟨some 4, none, .mv false (.t 156)⟩]
def gantkeep4_OrderTight_f : LFunc := ⟨157, 2, [.tmp 4], (.seq (.ops gantkeep4_OrderTight_r0) (.seq (.ops gantkeep4_OrderTight_r1) (.seq (.ops gantkeep4_OrderTight_r2) (.seq (.ops gantkeep4_OrderTight_r3) (.seq (.seq (.ops gantkeep4_OrderTight_r4) (.block 0 (.loop [5, 6, 7, 29, 30] gantkeep4_OrderTight_b0))) (.seq (.ops gantkeep4_OrderTight_r9) (.seq (.ops gantkeep4_OrderTight_r10) (.seq (.seq (.ops gantkeep4_OrderTight_r11) (.cond (.t 75) (.seq (.ops gantkeep4_OrderTight_r12) .ret) .skip)) (.seq (.ops gantkeep4_OrderTight_r13) (.seq (.seq (.ops gantkeep4_OrderTight_r14) (.block 2 (.loop [7, 9, 10, 12, 14, 76, 77, 78] gantkeep4_OrderTight_b1))) (.seq (.ops gantkeep4_OrderTight_r29) .ret)))))))))))⟩
def gantkeep4_OrderTight_v : VFunc := ⟨gantkeep4_OrderTight_f, true, false, false⟩
theorem gantkeep4_OrderTight_ok : preFunc Try.prog ⟨[], [], []⟩ Try.f3 [[5, 6, 7, 29, 30], [7, 9, 10, 12, 14, 76, 77, 78], [7, 9, 10, 12, 14, 15, 17, 76, 77, 78, 83, 84, 85]] = some gantkeep4_OrderTight_f := by kernel_rfl

-- gantry/gantkeep4.OrderChain
def gantkeep4_OrderChain_r0 : List LOper := [
  ⟨some 4, none, .mv false (.c (.bool false))⟩]
def gantkeep4_OrderChain_r1 : List LOper := [
  ⟨some 20, none, .mv false (.t 0)⟩,
  ⟨some 21, none, .call false 8 [(.t 20)]⟩,
  ⟨some 5, none, .mv false (.t 21)⟩]
def gantkeep4_OrderChain_r2 : List LOper := [
  ⟨some 22, none, .mv false (.t 1)⟩,
  ⟨some 23, none, .build [.nilslice] [(0, 1, (.t 22))]⟩,
  ⟨some 24, none, .box (.t 23)⟩,
  ⟨some 6, none, .mv false (.t 24)⟩]
def gantkeep4_OrderChain_r3 : List LOper := [
  ⟨some 25, none, .mv false (.t 5)⟩,
  ⟨some 26, none, .lenL (.t 25)⟩,
  ⟨some 27, none, .make true 1 8 [.int .i64 0] (.t 26) (.t 26)⟩,
  ⟨some 7, none, .mv false (.t 27)⟩]
def gantkeep4_OrderChain_r4 : List LOper := [
  ⟨some 28, none, .mv false (.t 7)⟩,
  ⟨some 29, none, .lenL (.t 28)⟩,
  ⟨some 30, none, .mv false (.c (.int .i64 0))⟩]
def gantkeep4_OrderChain_r5 : List LOper := [
  ⟨some 31, none, .bin .lss (.t 30) (.t 29)⟩]
def gantkeep4_OrderChain_r6 : List LOper := [
  ⟨some 32, none, .mv false (.t 30)⟩,
  ⟨some 8, none, .mv false (.t 32)⟩]
def gantkeep4_OrderChain_r7 : List LOper := [
  ⟨some 33, none, .mv false (.t 7)⟩,
  ⟨some 34, none, .mv false (.t 8)⟩,
  ⟨some 35, none, .mv false (.t 6)⟩,
  ⟨some 36, none, .call false 9 [(.t 35), (.c (.int .i64 30))]⟩,
  ⟨some 37, none, .bin .add (.c (.int .i64 1)) (.t 36)⟩,
  ⟨some 38, none, .indexAddr 1 (.t 33) (.t 34)⟩,
  ⟨none, none, .store 1 (.t 38) (.t 37)⟩]
def gantkeep4_OrderChain_r8 : List LOper := [
  ⟨some 39, none, .bin .add (.t 30) (.c (.int .i64 1))⟩,
  ⟨some 30, none, .mv false (.t 39)⟩]
def gantkeep4_OrderChain_b0 : LCode := (.seq (.ops gantkeep4_OrderChain_r5) (.seq (.cond (.t 31) .skip (.exit 0)) (.seq (.block 1 (.seq (.ops gantkeep4_OrderChain_r6) (.ops gantkeep4_OrderChain_r7))) (.ops gantkeep4_OrderChain_r8))))
def gantkeep4_OrderChain_r9 : List LOper := [
  ⟨some 41, none, .mv false (.t 5)⟩,
  ⟨some 42, none, .mv false (.t 7)⟩,
  ⟨some 43, none, .call false 13 [(.t 41), (.t 42)]⟩,
  ⟨some 40, none, .mv false (.t 43)⟩,
  ⟨some 44, none, .extract 0 (.t 40)⟩,
  ⟨some 45, none, .extract 1 (.t 40)⟩,
  ⟨some 9, none, .mv false (.t 44)⟩,
  ⟨some 10, none, .mv false (.t 45)⟩]
def gantkeep4_OrderChain_r10 : List LOper := [
  ⟨some 47, none, .mv false (.t 5)⟩,
  ⟨some 48, none, .mv false (.t 7)⟩,
  ⟨some 49, none, .call false 10 [(.t 47), (.t 48)]⟩,
  ⟨some 46, none, .mv false (.t 49)⟩,
  ⟨some 50, none, .extract 0 (.t 46)⟩,
  ⟨some 51, none, .extract 1 (.t 46)⟩,
  ⟨some 52, none, .extract 2 (.t 46)⟩,
  ⟨some 11, none, .mv false (.t 50)⟩,
  ⟨some 12, none, .mv false (.t 51)⟩,
  ⟨some 13, none, .mv false (.t 52)⟩]
def gantkeep4_OrderChain_r11 : List LOper := [
  ⟨some 53, none, .call false 12 []⟩,
  ⟨some 54, none, .un .not (.t 53)⟩,
  ⟨some 55, none, .mv false (.t 54)⟩,
  ⟨some 56, some (55, false), .mv false (.t 10)⟩,
  ⟨some 57, some (55, false), .bin .neq (.t 56) (.c (.int .i64 0))⟩,
  ⟨some 58, none, .pick (.t 55) (.c (.bool true)) (.t 57)⟩,
  ⟨some 59, none, .mv false (.t 58)⟩,
  ⟨some 60, some (59, false), .mv false (.t 13)⟩,
  ⟨some 61, some (59, false), .bin .neq (.t 60) (.c (.int .i64 0))⟩,
  ⟨some 62, none, .pick (.t 59) (.c (.bool true)) (.t 61)⟩,
  ⟨some 63, none, .mv false (.t 62)⟩,
  ⟨some 64, some (63, false), .mv false (.t 5)⟩,
  ⟨some 65, some (63, false), .lenL (.t 64)⟩,
  ⟨some 66, some (63, false), .bin .gtr (.t 65) (.c (.int .i64 0))⟩,
  ⟨some 67, some (63, false), .mv false (.t 66)⟩,
  ⟨some 68, some (67, true), .mv false (.t 9)⟩,
  ⟨some 69, some (67, true), .lenL (.t 68)⟩,
  ⟨some 70, some (67, true), .bin .eql (.t 69) (.c (.int .i64 0))⟩,
  ⟨some 71, some (63, false), .pick (.t 67) (.t 70) (.c (.bool false))⟩,
  ⟨some 72, none, .pick (.t 63) (.c (.bool true)) (.t 71)⟩]
def gantkeep4_OrderChain_r12 : List LOper := [
  ⟨some 4, none, .mv false (.c (.bool false))⟩]
def gantkeep4_OrderChain_r13 : List LOper := [
  ⟨some 73, none, .mv false (.t 5)⟩,
  ⟨some 74, none, .lenL (.t 73)⟩,
  ⟨some 75, none, .make true 1 8 [.int .i64 0] (.t 74) (.t 74)⟩,
  ⟨some 14, none, .mv false (.t 75)⟩]
def gantkeep4_OrderChain_r14 : List LOper := [
  ⟨some 15, none, .mv false (.c (.int .i64 0))⟩]
def gantkeep4_OrderChain_r15 : List LOper := [
  ⟨some 76, none, .mv false (.t 9)⟩,
  ⟨some 77, none, .lenL (.t 76)⟩,
  ⟨some 78, none, .mv false (.c (.int .i64 0))⟩]
def gantkeep4_OrderChain_r16 : List LOper := [
  ⟨some 79, none, .bin .lss (.t 78) (.t 77)⟩]
def gantkeep4_OrderChain_r17 : List LOper := [
  ⟨some 80, none, .indexAddr 1 (.t 76) (.t 78)⟩,
  ⟨some 81, none, .load false false 1 (.t 80)⟩,
  ⟨some 17, none, .mv false (.t 81)⟩]
def gantkeep4_OrderChain_r18 : List LOper := [
  ⟨some 82, none, .mv false (.t 17)⟩,
  ⟨some 83, none, .bin .lss (.t 82) (.c (.int .i64 0))⟩,
  ⟨some 84, none, .mv false (.t 83)⟩,
  ⟨some 85, some (84, false), .mv false (.t 17)⟩,
  ⟨some 86, some (84, false), .mv false (.t 5)⟩,
  ⟨some 87, some (84, false), .lenL (.t 86)⟩,
  ⟨some 88, some (84, false), .bin .geq (.t 85) (.t 87)⟩,
  ⟨some 89, none, .pick (.t 84) (.c (.bool true)) (.t 88)⟩]
def gantkeep4_OrderChain_r19 : List LOper := [
  ⟨some 4, none, .mv false (.c (.bool false))⟩]
def gantkeep4_OrderChain_r20 : List LOper := [
  ⟨some 90, none, .mv false (.t 5)⟩,
  ⟨some 91, none, .mv false (.t 17)⟩,
  ⟨some 92, none, .indexAddr 1 (.t 90) (.t 91)⟩,
  ⟨some 93, none, .load false false 1 (.t 92)⟩,
  ⟨some 94, none, .lenL (.t 93)⟩,
  ⟨some 95, none, .mv false (.c (.int .i64 0))⟩]
def gantkeep4_OrderChain_r21 : List LOper := [
  ⟨some 96, none, .bin .lss (.t 95) (.t 94)⟩]
def gantkeep4_OrderChain_r22 : List LOper := [
  ⟨some 97, none, .indexAddr 1 (.t 93) (.t 95)⟩,
  ⟨some 98, none, .load false false 1 (.t 97)⟩,
  ⟨some 19, none, .mv false (.t 98)⟩]
def gantkeep4_OrderChain_r23 : List LOper := [
  ⟨some 99, none, .mv false (.t 14)⟩,
  ⟨some 100, none, .mv false (.t 17)⟩,
  ⟨some 101, none, .mv false (.t 14)⟩,
  ⟨some 102, none, .mv false (.t 17)⟩,
  ⟨some 103, none, .indexAddr 1 (.t 101) (.t 102)⟩,
  ⟨some 104, none, .load false false 1 (.t 103)⟩,
  ⟨some 105, none, .mv false (.t 14)⟩,
  ⟨some 106, none, .mv false (.t 19)⟩,
  ⟨some 107, none, .indexAddr 1 (.t 105) (.t 106)⟩,
  ⟨some 108, none, .load false false 1 (.t 107)⟩,
  ⟨some 109, none, .max2 [(.t 104), (.t 108)]⟩,
  ⟨some 110, none, .indexAddr 1 (.t 99) (.t 100)⟩,
  ⟨none, none, .store 1 (.t 110) (.t 109)⟩]
theorem gantkeep4_OrderChain_r23_d : drawC [0, 0, 0, 0, 12, 28, 0, 0, 192, 448, 1020, 2047, 4095] [
  ⟨some 99, none, .mv false (.t 14)⟩,
  ⟨some 100, none, .mv false (.t 17)⟩,
  ⟨some 101, none, .mv false (.t 14)⟩,
  ⟨some 102, none, .mv false (.t 17)⟩,
  ⟨some 103, none, .indexAddr 1 (.t 101) (.t 102)⟩,
  ⟨some 104, none, .load false false 1 (.t 103)⟩,
  ⟨some 105, none, .mv false (.t 14)⟩,
  ⟨some 106, none, .mv false (.t 19)⟩,
  ⟨some 107, none, .indexAddr 1 (.t 105) (.t 106)⟩,
  ⟨some 108, none, .load false false 1 (.t 107)⟩,
  ⟨some 109, none, .max2 [(.t 104), (.t 108)]⟩,
  ⟨some 110, none, .indexAddr 1 (.t 99) (.t 100)⟩,
  ⟨none, none, .store 1 (.t 110) (.t 109)⟩] = true := by kernel_rfl
def gantkeep4_OrderChain_r24 : List LOper := [
  ⟨some 111, none, .bin .add (.t 95) (.c (.int .i64 1))⟩,
  ⟨some 95, none, .mv false (.t 111)⟩]
def gantkeep4_OrderChain_b2 : LCode := (.seq (.ops gantkeep4_OrderChain_r21) (.seq (.cond (.t 96) .skip (.exit 4)) (.seq (.block 5 (.seq (.ops gantkeep4_OrderChain_r22) (.dops [0, 0, 0, 0, 12, 28, 0, 0, 192, 448, 1020, 2047, 4095] gantkeep4_OrderChain_r23))) (.ops gantkeep4_OrderChain_r24))))
def gantkeep4_OrderChain_r25 : List LOper := [
  ⟨some 112, none, .mv false (.t 14)⟩,
  ⟨some 113, none, .mv false (.t 17)⟩,
  ⟨some 114, none, .indexAddr 1 (.t 112) (.t 113)⟩,
  ⟨some 115, none, .load false false 1 (.t 114)⟩,
  ⟨some 116, none, .mv false (.t 7)⟩,
  ⟨some 117, none, .mv false (.t 17)⟩,
  ⟨some 118, none, .indexAddr 1 (.t 116) (.t 117)⟩,
  ⟨some 119, none, .load false false 1 (.t 118)⟩,
  ⟨some 120, none, .bin .add (.t 115) (.t 119)⟩,
  ⟨some 121, none, .indexAddr 1 (.t 112) (.t 113)⟩,
  ⟨none, none, .store 1 (.t 121) (.t 120)⟩]
theorem gantkeep4_OrderChain_r25_d : drawC [0, 0, 3, 7, 0, 0, 48, 112, 255, 511, 1023] [
  ⟨some 112, none, .mv false (.t 14)⟩,
  ⟨some 113, none, .mv false (.t 17)⟩,
  ⟨some 114, none, .indexAddr 1 (.t 112) (.t 113)⟩,
  ⟨some 115, none, .load false false 1 (.t 114)⟩,
  ⟨some 116, none, .mv false (.t 7)⟩,
  ⟨some 117, none, .mv false (.t 17)⟩,
  ⟨some 118, none, .indexAddr 1 (.t 116) (.t 117)⟩,
  ⟨some 119, none, .load false false 1 (.t 118)⟩,
  ⟨some 120, none, .bin .add (.t 115) (.t 119)⟩,
  ⟨some 121, none, .indexAddr 1 (.t 112) (.t 113)⟩,
  ⟨none, none, .store 1 (.t 121) (.t 120)⟩] = true := by kernel_rfl
def gantkeep4_OrderChain_r26 : List LOper := [
  ⟨some 122, none, .mv false (.t 15)⟩,
  ⟨some 123, none, .mv false (.t 14)⟩,
  ⟨some 124, none, .mv false (.t 17)⟩,
  ⟨some 125, none, .indexAddr 1 (.t 123) (.t 124)⟩,
  ⟨some 126, none, .load false false 1 (.t 125)⟩,
  ⟨some 127, none, .max2 [(.t 122), (.t 126)]⟩,
  ⟨some 15, none, .mv false (.t 127)⟩]
def gantkeep4_OrderChain_r27 : List LOper := [
  ⟨some 128, none, .bin .add (.t 78) (.c (.int .i64 1))⟩,
  ⟨some 78, none, .mv false (.t 128)⟩]
def gantkeep4_OrderChain_b1 : LCode := (.seq (.ops gantkeep4_OrderChain_r16) (.seq (.cond (.t 79) .skip (.exit 2)) (.seq (.block 3 (.seq (.ops gantkeep4_OrderChain_r17) (.seq (.seq (.ops gantkeep4_OrderChain_r18) (.cond (.t 89) (.seq (.ops gantkeep4_OrderChain_r19) .ret) .skip)) (.seq (.seq (.ops gantkeep4_OrderChain_r20) (.block 4 (.loop [5, 7, 12, 14, 15, 17, 76, 77, 78, 93, 94, 95] gantkeep4_OrderChain_b2))) (.seq (.dops [0, 0, 3, 7, 0, 0, 48, 112, 255, 511, 1023] gantkeep4_OrderChain_r25) (.ops gantkeep4_OrderChain_r26)))))) (.ops gantkeep4_OrderChain_r27))))
def gantkeep4_OrderChain_r28 : List LOper := [
  ⟨some 129, none, .mv false (.t 15)⟩,
  ⟨some 130, none, .mv false (.t 12)⟩,
  ⟨some 131, none, .bin .eql (.t 129) (.t 130)⟩,
  ⟨some 4, none, .mv false (.t 131)⟩]
def gantkeep4_OrderChain_f : LFunc := ⟨132, 2, [.tmp 4], (.seq (.ops gantkeep4_OrderChain_r0) (.seq (.ops gantkeep4_OrderChain_r1) (.seq (.ops gantkeep4_OrderChain_r2) (.seq (.ops gantkeep4_OrderChain_r3) (.seq (.seq (.ops gantkeep4_OrderChain_r4) (.block 0 (.loop [5, 6, 7, 29, 30] gantkeep4_OrderChain_b0))) (.seq (.ops gantkeep4_OrderChain_r9) (.seq (.ops gantkeep4_OrderChain_r10) (.seq (.seq (.ops gantkeep4_OrderChain_r11) (.cond (.t 72) (.seq (.ops gantkeep4_OrderChain_r12) .ret) .skip)) (.seq (.ops gantkeep4_OrderChain_r13) (.seq (.ops gantkeep4_OrderChain_r14) (.seq (.seq (.ops gantkeep4_OrderChain_r15) (.block 2 (.loop [5, 7, 12, 14, 15, 76, 77, 78] gantkeep4_OrderChain_b1))) (.seq (.ops gantkeep4_OrderChain_r28) .ret))))))))))))⟩
def gantkeep4_OrderChain_v : VFunc := ⟨gantkeep4_OrderChain_f, true, false, false⟩
theorem gantkeep4_OrderChain_ok : preFunc Try.prog ⟨[], [], []⟩ Try.f4 [[5, 6, 7, 29, 30], [5, 7, 12, 14, 15, 76, 77, 78], [5, 7, 12, 14, 15, 17, 76, 77, 78, 93, 94, 95]] = some gantkeep4_OrderChain_f := by kernel_rfl

-- gantry/gantkeep4.ToolsFirstFree
def gantkeep4_ToolsFirstFree_r0 : List LOper := [
  ⟨some 8, none, .mv false (.c (.bool false))⟩]
def gantkeep4_ToolsFirstFree_r1 : List LOper := [
  ⟨some 9, none, .mv false (.c (.nilslice))⟩]
def gantkeep4_ToolsFirstFree_r2 : List LOper := [
  ⟨some 21, none, .mv false (.t 0)⟩,
  ⟨some 22, none, .build [.nilslice] [(0, 1, (.t 21))]⟩,
  ⟨some 23, none, .box (.t 22)⟩,
  ⟨some 10, none, .mv false (.t 23)⟩]
def gantkeep4_ToolsFirstFree_r3 : List LOper := [
  ⟨some 24, none, .mv false (.t 10)⟩,
  ⟨some 25, none, .call false 9 [(.t 24), (.c (.int .i64 8))]⟩,
  ⟨some 26, none, .mv false (.c (.int .i64 0))⟩]
def gantkeep4_ToolsFirstFree_r4 : List LOper := [
  ⟨some 27, none, .bin .lss (.t 26) (.t 25)⟩]
def gantkeep4_ToolsFirstFree_r5 : List LOper := [
  ⟨some 29, none, .mv false (.t 9)⟩,
  ⟨some 30, none, .mv false (.t 10)⟩,
  ⟨some 31, none, .call false 9 [(.t 30), (.c (.int .i64 2))]⟩,
  ⟨some 32, none, .mv false (.t 10)⟩,
  ⟨some 33, none, .call false 9 [(.t 32), (.c (.int .i64 60))]⟩,
  ⟨some 34, none, .mv false (.t 10)⟩,
  ⟨some 35, none, .call false 9 [(.t 34), (.c (.int .i64 10))]⟩,
  ⟨some 36, none, .bin .add (.c (.int .i64 1)) (.t 35)⟩,
  ⟨some 37, none, .build [.int .i64 0, .int .i64 0, .int .i64 0] [(0, 1, (.t 31)), (1, 1, (.t 33)), (2, 1, (.t 36))]⟩,
  ⟨some 38, none, .call false 14 [(.t 29), (.t 37)]⟩,
  ⟨some 28, none, .mv false (.t 38)⟩,
  ⟨some 39, none, .extract 0 (.t 28)⟩,
  ⟨some 40, none, .extract 1 (.t 28)⟩,
  ⟨some 11, none, .mv false (.t 39)⟩,
  ⟨some 12, none, .mv false (.t 40)⟩]
def gantkeep4_ToolsFirstFree_r6 : List LOper := [
  ⟨some 41, none, .mv false (.t 12)⟩,
  ⟨some 42, none, .bin .eql (.t 41) (.c (.int .i64 0))⟩]
def gantkeep4_ToolsFirstFree_r7 : List LOper := [
  ⟨some 43, none, .mv false (.t 11)⟩,
  ⟨some 9, none, .mv false (.t 43)⟩]
def gantkeep4_ToolsFirstFree_r8 : List LOper := [
  ⟨some 44, none, .bin .add (.t 26) (.c (.int .i64 1))⟩,
  ⟨some 26, none, .mv false (.t 44)⟩]
def gantkeep4_ToolsFirstFree_b0 : LCode := (.seq (.ops gantkeep4_ToolsFirstFree_r4) (.seq (.cond (.t 27) .skip (.exit 0)) (.seq (.block 1 (.seq (.ops gantkeep4_ToolsFirstFree_r5) (.seq (.ops gantkeep4_ToolsFirstFree_r6) (.cond (.t 42) (.ops gantkeep4_ToolsFirstFree_r7) .skip)))) (.ops gantkeep4_ToolsFirstFree_r8))))
def gantkeep4_ToolsFirstFree_r9 : List LOper := [
  ⟨some 45, none, .mv false (.t 1)⟩,
  ⟨some 46, none, .call false 15 [(.t 45), (.c (.int .i64 2))]⟩,
  ⟨some 47, none, .mv false (.t 2)⟩,
  ⟨some 48, none, .call false 15 [(.t 47), (.c (.int .i64 70))]⟩,
  ⟨some 49, none, .mv false (.t 3)⟩,
  ⟨some 50, none, .call false 15 [(.t 49), (.c (.int .i64 12))]⟩,
  ⟨some 51, none, .bin .add (.c (.int .i64 1)) (.t 50)⟩,
  ⟨some 52, none, .build [.int .i64 0, .int .i64 0, .int .i64 0] [(0, 1, (.t 46)), (1, 1, (.t 48)), (2, 1, (.t 51))]⟩,
  ⟨some 13, none, .alloc [.int .i64 0, .int .i64 0, .int .i64 0]⟩,
  ⟨none, none, .store 3 (.t 13) (.t 52)⟩]
def gantkeep4_ToolsFirstFree_r10 : List LOper := [
  ⟨some 54, none, .mv false (.t 9)⟩,
  ⟨some 55, none, .fieldAddr 0 (.t 13)⟩,
  ⟨some 56, none, .load false false 1 (.t 55)⟩,
  ⟨some 57, none, .fieldAddr 1 (.t 13)⟩,
  ⟨some 58, none, .load false false 1 (.t 57)⟩,
  ⟨some 59, none, .fieldAddr 2 (.t 13)⟩,
  ⟨some 60, none, .load false false 1 (.t 59)⟩,
  ⟨some 61, none, .call false 16 [(.t 54), (.t 56), (.t 58), (.t 60)]⟩,
  ⟨some 53, none, .mv false (.t 61)⟩,
  ⟨some 62, none, .extract 0 (.t 53)⟩,
  ⟨some 63, none, .extract 1 (.t 53)⟩,
  ⟨some 14, none, .mv false (.t 62)⟩,
  ⟨some 15, none, .mv false (.t 63)⟩]
def gantkeep4_ToolsFirstFree_r11 : List LOper := [
  ⟨some 64, none, .call false 17 []⟩,
  ⟨some 65, none, .un .not (.t 64)⟩,
  ⟨some 66, none, .mv false (.t 65)⟩,
  ⟨some 67, some (66, false), .mv false (.t 15)⟩,
  ⟨some 68, some (66, false), .bin .neq (.t 67) (.c (.int .i64 0))⟩,
  ⟨some 69, none, .pick (.t 66) (.c (.bool true)) (.t 68)⟩,
  ⟨some 70, none, .mv false (.t 69)⟩,
  ⟨some 71, some (70, false), .mv false (.t 14)⟩,
  ⟨some 72, some (70, false), .fieldAddr 1 (.t 13)⟩,
  ⟨some 73, some (70, false), .load false false 1 (.t 72)⟩,
  ⟨some 74, some (70, false), .bin .lss (.t 71) (.t 73)⟩,
  ⟨some 75, none, .pick (.t 70) (.c (.bool true)) (.t 74)⟩,
  ⟨some 76, none, .mv false (.t 75)⟩,
  ⟨some 77, some (76, false), .mv false (.t 14)⟩,
  ⟨some 78, some (76, false), .bin .gtr (.t 77) (.c (.int .i64 200))⟩,
  ⟨some 79, none, .pick (.t 76) (.c (.bool true)) (.t 78)⟩]
def gantkeep4_ToolsFirstFree_r12 : List LOper := [
  ⟨some 8, none, .mv false (.c (.bool false))⟩]
def gantkeep4_ToolsFirstFree_r13 : List LOper := [
  ⟨some 80, none, .fieldAddr 1 (.t 13)⟩,
  ⟨some 81, none, .load false false 1 (.t 80)⟩,
  ⟨some 16, none, .mv false (.t 81)⟩]
def gantkeep4_ToolsFirstFree_r14 : List LOper := [
  ⟨some 82, none, .mv false (.t 16)⟩,
  ⟨some 83, none, .mv false (.t 14)⟩,
  ⟨some 84, none, .bin .leq (.t 82) (.t 83)⟩]
def gantkeep4_ToolsFirstFree_r15 : List LOper := [
  ⟨some 88, none, .mv false (.t 9)⟩,
  ⟨some 89, none, .fieldAddr 0 (.t 13)⟩,
  ⟨some 90, none, .load false false 1 (.t 89)⟩,
  ⟨some 91, none, .mv false (.t 16)⟩,
  ⟨some 92, none, .fieldAddr 2 (.t 13)⟩,
  ⟨some 93, none, .load false false 1 (.t 92)⟩,
  ⟨some 94, none, .build [.int .i64 0, .int .i64 0, .int .i64 0] [(0, 1, (.t 90)), (1, 1, (.t 91)), (2, 1, (.t 93))]⟩,
  ⟨some 95, none, .call false 14 [(.t 88), (.t 94)]⟩,
  ⟨some 87, none, .mv false (.t 95)⟩,
  ⟨some 96, none, .extract 0 (.t 87)⟩,
  ⟨some 97, none, .extract 1 (.t 87)⟩,
  ⟨some 17, none, .mv false (.t 96)⟩,
  ⟨some 18, none, .mv false (.t 97)⟩]
def gantkeep4_ToolsFirstFree_r16 : List LOper := [
  ⟨some 98, none, .mv false (.t 18)⟩,
  ⟨some 99, none, .bin .eql (.t 98) (.c (.int .i64 0))⟩,
  ⟨some 100, none, .mv false (.t 16)⟩,
  ⟨some 101, none, .mv false (.t 14)⟩,
  ⟨some 102, none, .bin .eql (.t 100) (.t 101)⟩,
  ⟨some 103, none, .eqv true .bool (.t 99) (.t 102)⟩]
def gantkeep4_ToolsFirstFree_r17 : List LOper := [
  ⟨some 8, none, .mv false (.c (.bool false))⟩]
def gantkeep4_ToolsFirstFree_r18 : List LOper := [
  ⟨some 85, none, .mv false (.t 16)⟩,
  ⟨some 86, none, .bin .add (.t 85) (.c (.int .i64 1))⟩,
  ⟨some 16, none, .mv false (.t 86)⟩]
def gantkeep4_ToolsFirstFree_b1 : LCode := (.seq (.seq (.ops gantkeep4_ToolsFirstFree_r14) (.cond (.t 84) .skip (.exit 2))) (.seq (.block 3 (.seq (.ops gantkeep4_ToolsFirstFree_r15) (.seq (.ops gantkeep4_ToolsFirstFree_r16) (.cond (.t 103) (.seq (.ops gantkeep4_ToolsFirstFree_r17) .ret) .skip)))) (.ops gantkeep4_ToolsFirstFree_r18)))
def gantkeep4_ToolsFirstFree_r19 : List LOper := [
  ⟨some 105, none, .mv false (.t 9)⟩,
  ⟨some 106, none, .fieldAddr 0 (.t 13)⟩,
  ⟨some 107, none, .load false false 1 (.t 106)⟩,
  ⟨some 108, none, .mv false (.t 14)⟩,
  ⟨some 109, none, .mv false (.t 14)⟩,
  ⟨some 110, none, .fieldAddr 2 (.t 13)⟩,
  ⟨some 111, none, .load false false 1 (.t 110)⟩,
  ⟨some 112, none, .bin .add (.t 109) (.t 111)⟩,
  ⟨some 113, none, .call false 18 [(.t 105), (.t 107), (.t 108), (.t 112)]⟩,
  ⟨some 104, none, .mv false (.t 113)⟩,
  ⟨some 114, none, .extract 0 (.t 104)⟩,
  ⟨some 115, none, .extract 1 (.t 104)⟩,
  ⟨some 19, none, .mv false (.t 114)⟩,
  ⟨some 20, none, .mv false (.t 115)⟩]
def gantkeep4_ToolsFirstFree_r20 : List LOper := [
  ⟨some 116, none, .mv false (.t 20)⟩,
  ⟨some 117, none, .bin .eql (.t 116) (.c (.int .i64 0))⟩,
  ⟨some 118, none, .mv false (.t 117)⟩,
  ⟨some 119, some (118, true), .mv false (.t 19)⟩,
  ⟨some 120, some (118, true), .bin .eql (.t 119) (.c (.int .i64 0))⟩,
  ⟨some 121, none, .pick (.t 118) (.t 120) (.c (.bool false))⟩,
  ⟨some 8, none, .mv false (.t 121)⟩]
def gantkeep4_ToolsFirstFree_f : LFunc := ⟨122, 4, [.tmp 8], (.seq (.ops gantkeep4_ToolsFirstFree_r0) (.seq (.ops gantkeep4_ToolsFirstFree_r1) (.seq (.ops gantkeep4_ToolsFirstFree_r2) (.seq (.seq (.ops gantkeep4_ToolsFirstFree_r3) (.block 0 (.loop [1, 2, 3, 9, 10, 25, 26] gantkeep4_ToolsFirstFree_b0))) (.seq (.ops gantkeep4_ToolsFirstFree_r9) (.seq (.ops gantkeep4_ToolsFirstFree_r10) (.seq (.seq (.ops gantkeep4_ToolsFirstFree_r11) (.cond (.t 79) (.seq (.ops gantkeep4_ToolsFirstFree_r12) .ret) .skip)) (.seq (.seq (.ops gantkeep4_ToolsFirstFree_r13) (.block 2 (.loop [9, 13, 14, 16] gantkeep4_ToolsFirstFree_b1))) (.seq (.ops gantkeep4_ToolsFirstFree_r19) (.seq (.ops gantkeep4_ToolsFirstFree_r20) .ret))))))))))⟩
def gantkeep4_ToolsFirstFree_v : VFunc := ⟨gantkeep4_ToolsFirstFree_f, true, false, false⟩
theorem gantkeep4_ToolsFirstFree_ok : preFunc Try.prog ⟨[], [], []⟩ Try.f5 [[1, 2, 3, 9, 10, 25, 26], [9, 13, 14, 16]] = some gantkeep4_ToolsFirstFree_f := by kernel_rfl

-- gantry/gantkeep4.ToolsEarly
def gantkeep4_ToolsEarly_r0 : List LOper := [
  ⟨some 2, none, .mv false (.c (.bool false))⟩]
def gantkeep4_ToolsEarly_r1 : List LOper := [
  ⟨some 8, none, .mv false (.t 0)⟩,
  ⟨some 9, none, .call false 19 [(.t 8)]⟩,
  ⟨some 3, none, .mv false (.t 9)⟩]
def gantkeep4_ToolsEarly_r2 : List LOper := [
  ⟨some 11, none, .mv false (.t 3)⟩,
  ⟨some 12, none, .call false 20 [(.t 11)]⟩,
  ⟨some 10, none, .mv false (.t 12)⟩,
  ⟨some 13, none, .extract 0 (.t 10)⟩,
  ⟨some 14, none, .extract 1 (.t 10)⟩,
  ⟨some 4, none, .mv false (.t 13)⟩,
  ⟨some 5, none, .mv false (.t 14)⟩]
def gantkeep4_ToolsEarly_r3 : List LOper := [
  ⟨some 15, none, .call false 17 []⟩,
  ⟨some 16, none, .un .not (.t 15)⟩,
  ⟨some 17, none, .mv false (.t 16)⟩,
  ⟨some 18, some (17, false), .mv false (.t 5)⟩,
  ⟨some 19, some (17, false), .bin .neq (.t 18) (.c (.int .i64 0))⟩,
  ⟨some 20, none, .pick (.t 17) (.c (.bool true)) (.t 19)⟩,
  ⟨some 21, none, .mv false (.t 20)⟩,
  ⟨some 22, some (21, false), .mv false (.t 4)⟩,
  ⟨some 23, some (21, false), .lenL (.t 22)⟩,
  ⟨some 24, some (21, false), .mv false (.t 3)⟩,
  ⟨some 25, some (21, false), .lenL (.t 24)⟩,
  ⟨some 26, some (21, false), .bin .neq (.t 23) (.t 25)⟩,
  ⟨some 27, none, .pick (.t 21) (.c (.bool true)) (.t 26)⟩]
def gantkeep4_ToolsEarly_r4 : List LOper := [
  ⟨some 2, none, .mv false (.c (.bool false))⟩]
def gantkeep4_ToolsEarly_r5 : List LOper := [
  ⟨some 28, none, .mv false (.t 4)⟩,
  ⟨some 29, none, .lenL (.t 28)⟩,
  ⟨some 30, none, .mv false (.c (.int .i64 0))⟩]
def gantkeep4_ToolsEarly_r6 : List LOper := [
  ⟨some 31, none, .bin .lss (.t 30) (.t 29)⟩]
def gantkeep4_ToolsEarly_r7 : List LOper := [
  ⟨some 32, none, .mv false (.t 30)⟩,
  ⟨some 6, none, .mv false (.t 32)⟩]
def gantkeep4_ToolsEarly_r8 : List LOper := [
  ⟨some 33, none, .mv false (.t 4)⟩,
  ⟨some 34, none, .mv false (.t 6)⟩,
  ⟨some 35, none, .bin .add (.t 34) (.c (.int .i64 1))⟩,
  ⟨some 36, none, .slc 1 (.t 33) none (some (.t 35)) none⟩,
  ⟨some 37, none, .call false 21 [(.t 36)]⟩,
  ⟨some 7, none, .mv false (.t 37)⟩]
def gantkeep4_ToolsEarly_r9 : List LOper := [
  ⟨some 38, none, .mv false (.t 7)⟩,
  ⟨some 39, none, .mv false (.t 6)⟩,
  ⟨some 40, none, .indexAddr 1 (.t 38) (.t 39)⟩,
  ⟨some 41, none, .load false false 1 (.t 40)⟩,
  ⟨some 42, none, .bin .sub (.t 41) (.c (.int .i64 1))⟩,
  ⟨some 43, none, .indexAddr 1 (.t 38) (.t 39)⟩,
  ⟨none, none, .store 1 (.t 43) (.t 42)⟩]
def gantkeep4_ToolsEarly_r10 : List LOper := [
  ⟨some 44, none, .mv false (.t 3)⟩,
  ⟨some 45, none, .mv false (.t 6)⟩,
  ⟨some 46, none, .bin .add (.t 45) (.c (.int .i64 1))⟩,
  ⟨some 47, none, .slc 3 (.t 44) none (some (.t 46)) none⟩,
  ⟨some 48, none, .mv false (.t 7)⟩,
  ⟨some 49, none, .call false 22 [(.t 47), (.t 48)]⟩]
def gantkeep4_ToolsEarly_r11 : List LOper := [
  ⟨some 2, none, .mv false (.c (.bool false))⟩]
def gantkeep4_ToolsEarly_r12 : List LOper := [
  ⟨some 50, none, .bin .add (.t 30) (.c (.int .i64 1))⟩,
  ⟨some 30, none, .mv false (.t 50)⟩]
def gantkeep4_ToolsEarly_b0 : LCode := (.seq (.ops gantkeep4_ToolsEarly_r6) (.seq (.cond (.t 31) .skip (.exit 0)) (.seq (.block 1 (.seq (.ops gantkeep4_ToolsEarly_r7) (.seq (.ops gantkeep4_ToolsEarly_r8) (.seq (.ops gantkeep4_ToolsEarly_r9) (.seq (.ops gantkeep4_ToolsEarly_r10) (.cond (.t 49) (.seq (.ops gantkeep4_ToolsEarly_r11) .ret) .skip)))))) (.ops gantkeep4_ToolsEarly_r12))))
def gantkeep4_ToolsEarly_r13 : List LOper := [
  ⟨some 2, none, .mv false (.c (.bool true))⟩]
def gantkeep4_ToolsEarly_f : LFunc := ⟨51, 1, [.tmp 2], (.seq (.ops gantkeep4_ToolsEarly_r0) (.seq (.ops gantkeep4_ToolsEarly_r1) (.seq (.ops gantkeep4_ToolsEarly_r2) (.seq (.seq (.ops gantkeep4_ToolsEarly_r3) (.cond (.t 27) (.seq (.ops gantkeep4_ToolsEarly_r4) .ret) .skip)) (.seq (.seq (.ops gantkeep4_ToolsEarly_r5) (.block 0 (.loop [3, 4, 29, 30] gantkeep4_ToolsEarly_b0))) (.seq (.ops gantkeep4_ToolsEarly_r13) .ret))))))⟩
def gantkeep4_ToolsEarly_v : VFunc := ⟨gantkeep4_ToolsEarly_f, true, false, false⟩
theorem gantkeep4_ToolsEarly_ok : preFunc Try.prog ⟨[], [], []⟩ Try.f6 [[3, 4, 29, 30]] = some gantkeep4_ToolsEarly_f := by kernel_rfl

-- gantry/gantkeep4.ToolsNever
def gantkeep4_ToolsNever_r0 : List LOper := [
  ⟨some 6, none, .mv false (.c (.bool false))⟩]
def gantkeep4_ToolsNever_r1 : List LOper := [
  ⟨some 17, none, .mv false (.t 0)⟩,
  ⟨some 18, none, .call false 19 [(.t 17)]⟩,
  ⟨some 7, none, .mv false (.t 18)⟩]
def gantkeep4_ToolsNever_r2 : List LOper := [
  ⟨some 20, none, .mv false (.t 7)⟩,
  ⟨some 21, none, .call false 20 [(.t 20)]⟩,
  ⟨some 19, none, .mv false (.t 21)⟩,
  ⟨some 22, none, .extract 0 (.t 19)⟩,
  ⟨some 23, none, .extract 1 (.t 19)⟩,
  ⟨some 8, none, .mv false (.t 22)⟩,
  ⟨some 9, none, .mv false (.t 23)⟩]
def gantkeep4_ToolsNever_r3 : List LOper := [
  ⟨some 24, none, .mv false (.t 7)⟩,
  ⟨some 25, none, .call false 23 [(.t 24)]⟩,
  ⟨some 26, none, .mv false (.t 1)⟩,
  ⟨some 27, none, .call false 15 [(.t 26), (.c (.int .i64 4))]⟩,
  ⟨some 28, none, .bin .sub (.t 27) (.c (.int .i64 1))⟩,
  ⟨some 29, none, .mv false (.t 2)⟩,
  ⟨some 30, none, .call false 15 [(.t 29), (.c (.int .i64 20))]⟩,
  ⟨some 31, none, .bin .add (.c (.int .i64 1)) (.t 30)⟩,
  ⟨some 32, none, .build [.int .i64 0, .int .i64 0, .nilslice] [(0, 1, (.t 28)), (1, 1, (.t 31))]⟩,
  ⟨some 33, none, .bslice false 1 3 [.int .i64 0, .int .i64 0, .nilslice] [(0, 3, (.t 32))]⟩,
  ⟨some 34, none, .append true 3 40 (.t 25) (.t 33)⟩,
  ⟨some 10, none, .mv false (.t 34)⟩]
def gantkeep4_ToolsNever_r4 : List LOper := [
  ⟨some 36, none, .mv false (.t 10)⟩,
  ⟨some 37, none, .call false 20 [(.t 36)]⟩,
  ⟨some 35, none, .mv false (.t 37)⟩,
  ⟨some 38, none, .extract 0 (.t 35)⟩,
  ⟨some 39, none, .extract 1 (.t 35)⟩,
  ⟨some 11, none, .mv false (.t 38)⟩,
  ⟨some 12, none, .mv false (.t 39)⟩]
def gantkeep4_ToolsNever_r5 : List LOper := [
  ⟨some 40, none, .call false 17 []⟩,
  ⟨some 41, none, .un .not (.t 40)⟩,
  ⟨some 42, none, .mv false (.t 41)⟩,
  ⟨some 43, some (42, false), .mv false (.t 9)⟩,
  ⟨some 44, some (42, false), .bin .neq (.t 43) (.c (.int .i64 0))⟩,
  ⟨some 45, none, .pick (.t 42) (.c (.bool true)) (.t 44)⟩,
  ⟨some 46, none, .mv false (.t 45)⟩,
  ⟨some 47, some (46, false), .mv false (.t 12)⟩,
  ⟨some 48, some (46, false), .bin .neq (.t 47) (.c (.int .i64 0))⟩,
  ⟨some 49, none, .pick (.t 46) (.c (.bool true)) (.t 48)⟩,
  ⟨some 50, none, .mv false (.t 49)⟩,
  ⟨some 51, some (50, false), .mv false (.t 8)⟩,
  ⟨some 52, some (50, false), .lenL (.t 51)⟩,
  ⟨some 53, some (50, false), .mv false (.t 7)⟩,
  ⟨some 54, some (50, false), .lenL (.t 53)⟩,
  ⟨some 55, some (50, false), .bin .neq (.t 52) (.t 54)⟩,
  ⟨some 56, none, .pick (.t 50) (.c (.bool true)) (.t 55)⟩,
  ⟨some 57, none, .mv false (.t 56)⟩,
  ⟨some 58, some (57, false), .mv false (.t 11)⟩,
  ⟨some 59, some (57, false), .lenL (.t 58)⟩,
  ⟨some 60, some (57, false), .mv false (.t 10)⟩,
  ⟨some 61, some (57, false), .lenL (.t 60)⟩,
  ⟨some 62, some (57, false), .bin .neq (.t 59) (.t 61)⟩,
  ⟨some 63, none, .pick (.t 57) (.c (.bool true)) (.t 62)⟩]
def gantkeep4_ToolsNever_r6 : List LOper := [
  ⟨some 6, none, .mv false (.c (.bool false))⟩]
def gantkeep4_ToolsNever_r7 : List LOper := [
  ⟨some 65, none, .mv false (.t 7)⟩,
  ⟨some 66, none, .mv false (.t 8)⟩,
  ⟨some 67, none, .call false 24 [(.t 65), (.t 66)]⟩,
  ⟨some 64, none, .mv false (.t 67)⟩,
  ⟨some 68, none, .extract 0 (.t 64)⟩,
  ⟨some 69, none, .extract 1 (.t 64)⟩,
  ⟨some 13, none, .mv false (.t 68)⟩,
  ⟨some 14, none, .mv false (.t 69)⟩]
def gantkeep4_ToolsNever_r8 : List LOper := [
  ⟨some 71, none, .mv false (.t 10)⟩,
  ⟨some 72, none, .mv false (.t 11)⟩,
  ⟨some 73, none, .call false 24 [(.t 71), (.t 72)]⟩,
  ⟨some 70, none, .mv false (.t 73)⟩,
  ⟨some 74, none, .extract 0 (.t 70)⟩,
  ⟨some 75, none, .extract 1 (.t 70)⟩,
  ⟨some 15, none, .mv false (.t 74)⟩,
  ⟨some 16, none, .mv false (.t 75)⟩]
def gantkeep4_ToolsNever_r9 : List LOper := [
  ⟨some 76, none, .mv false (.t 7)⟩,
  ⟨some 77, none, .mv false (.t 8)⟩,
  ⟨some 78, none, .call false 22 [(.t 76), (.t 77)]⟩,
  ⟨some 79, none, .mv false (.t 78)⟩,
  ⟨some 80, some (79, true), .mv false (.t 10)⟩,
  ⟨some 81, some (79, true), .mv false (.t 11)⟩,
  ⟨some 82, some (79, true), .call false 22 [(.t 80), (.t 81)]⟩,
  ⟨some 83, none, .pick (.t 79) (.t 82) (.c (.bool false))⟩,
  ⟨some 84, none, .mv false (.t 83)⟩,
  ⟨some 85, some (84, true), .mv false (.t 8)⟩,
  ⟨some 86, some (84, true), .mv false (.t 11)⟩,
  ⟨some 87, some (84, true), .mv false (.t 8)⟩,
  ⟨some 88, some (84, true), .lenL (.t 87)⟩,
  ⟨some 89, some (84, true), .slc 1 (.t 86) none (some (.t 88)) none⟩,
  ⟨some 90, some (84, true), .call false 25 [(.t 85), (.t 89)]⟩,
  ⟨some 91, none, .pick (.t 84) (.t 90) (.c (.bool false))⟩,
  ⟨some 92, none, .mv false (.t 91)⟩,
  ⟨some 93, some (92, true), .mv false (.t 14)⟩,
  ⟨some 94, some (92, true), .bin .eql (.t 93) (.c (.int .i64 0))⟩,
  ⟨some 95, none, .pick (.t 92) (.t 94) (.c (.bool false))⟩,
  ⟨some 96, none, .mv false (.t 95)⟩,
  ⟨some 97, some (96, true), .mv false (.t 16)⟩,
  ⟨some 98, some (96, true), .bin .eql (.t 97) (.c (.int .i64 0))⟩,
  ⟨some 99, none, .pick (.t 96) (.t 98) (.c (.bool false))⟩,
  ⟨some 100, none, .mv false (.t 99)⟩,
  ⟨some 101, some (100, true), .mv false (.t 13)⟩,
  ⟨some 102, some (100, true), .mv false (.t 15)⟩,
  ⟨some 103, some (100, true), .bin .leq (.t 101) (.t 102)⟩,
  ⟨some 104, none, .pick (.t 100) (.t 103) (.c (.bool false))⟩,
  ⟨some 6, none, .mv false (.t 104)⟩]
def gantkeep4_ToolsNever_f : LFunc := ⟨105, 3, [.tmp 6], (.seq (.ops gantkeep4_ToolsNever_r0) (.seq (.ops gantkeep4_ToolsNever_r1) (.seq (.ops gantkeep4_ToolsNever_r2) (.seq (.ops gantkeep4_ToolsNever_r3) (.seq (.ops gantkeep4_ToolsNever_r4) (.seq (.seq (.ops gantkeep4_ToolsNever_r5) (.cond (.t 63) (.seq (.ops gantkeep4_ToolsNever_r6) .ret) .skip)) (.seq (.ops gantkeep4_ToolsNever_r7) (.seq (.ops gantkeep4_ToolsNever_r8) (.seq (.ops gantkeep4_ToolsNever_r9) .ret)))))))))⟩
def gantkeep4_ToolsNever_v : VFunc := ⟨gantkeep4_ToolsNever_f, true, false, false⟩
theorem gantkeep4_ToolsNever_ok : preFunc Try.prog ⟨[25], [], []⟩ Try.f7 [] = some gantkeep4_ToolsNever_f := by kernel_rfl

-- gantry/gantkeep4.belongs
def gantkeep4_belongs_r0 : List LOper := [
  ⟨some 2, none, .mv false (.c (.nilslice))⟩]
def gantkeep4_belongs_r1 : List LOper := [
  ⟨some 7, none, .mv false (.t 0)⟩,
  ⟨some 8, none, .build [.nilslice] [(0, 1, (.t 7))]⟩,
  ⟨some 9, none, .box (.t 8)⟩,
  ⟨some 3, none, .mv false (.t 9)⟩]
def gantkeep4_belongs_r2 : List LOper := [
  ⟨some 10, none, .mv false (.t 3)⟩,
  ⟨some 11, none, .call false 9 [(.t 10), (.c (.int .i64 9))]⟩,
  ⟨some 12, none, .make true 1 24 [.nilslice] (.t 11) (.t 11)⟩,
  ⟨some 4, none, .mv false (.t 12)⟩]
def gantkeep4_belongs_r3 : List LOper := [
  ⟨some 13, none, .mv false (.t 4)⟩,
  ⟨some 14, none, .lenL (.t 13)⟩,
  ⟨some 15, none, .mv false (.c (.int .i64 0))⟩]
def gantkeep4_belongs_r4 : List LOper := [
  ⟨some 16, none, .bin .lss (.t 15) (.t 14)⟩]
def gantkeep4_belongs_r5 : List LOper := [
  ⟨some 17, none, .mv false (.t 15)⟩,
  ⟨some 5, none, .mv false (.t 17)⟩]
def gantkeep4_belongs_r6 : List LOper := [
  ⟨some 18, none, .mv false (.t 5)⟩,
  ⟨some 19, none, .mv false (.c (.int .i64 0))⟩]
def gantkeep4_belongs_r7 : List LOper := [
  ⟨some 20, none, .bin .lss (.t 19) (.t 18)⟩]
def gantkeep4_belongs_r8 : List LOper := [
  ⟨some 21, none, .mv false (.t 19)⟩,
  ⟨some 6, none, .mv false (.t 21)⟩]
def gantkeep4_belongs_r9 : List LOper := [
  ⟨some 22, none, .mv false (.t 3)⟩,
  ⟨some 23, none, .call false 9 [(.t 22), (.c (.int .i64 3))]⟩,
  ⟨some 24, none, .bin .eql (.t 23) (.c (.int .i64 0))⟩]
def gantkeep4_belongs_r10 : List LOper := [
  ⟨some 25, none, .mv false (.t 4)⟩,
  ⟨some 26, none, .mv false (.t 5)⟩,
  ⟨some 27, none, .mv false (.t 4)⟩,
  ⟨some 28, none, .mv false (.t 5)⟩,
  ⟨some 29, none, .indexAddr 1 (.t 27) (.t 28)⟩,
  ⟨some 30, none, .load true false 1 (.t 29)⟩,
  ⟨some 31, none, .mv false (.t 6)⟩,
  ⟨some 32, none, .bslice false 1 1 [.int .i64 0] [(0, 1, (.t 31))]⟩,
  ⟨some 33, none, .append true 1 8 (.t 30) (.t 32)⟩,
  ⟨some 34, none, .indexAddr 1 (.t 25) (.t 26)⟩,
  ⟨none, none, .store 1 (.t 34) (.t 33)⟩]
def gantkeep4_belongs_r11 : List LOper := [
  ⟨some 35, none, .bin .add (.t 19) (.c (.int .i64 1))⟩,
  ⟨some 19, none, .mv false (.t 35)⟩]
def gantkeep4_belongs_b1 : LCode := (.seq (.ops gantkeep4_belongs_r7) (.seq (.cond (.t 20) .skip (.exit 2)) (.seq (.block 3 (.seq (.ops gantkeep4_belongs_r8) (.seq (.ops gantkeep4_belongs_r9) (.cond (.t 24) (.ops gantkeep4_belongs_r10) .skip)))) (.ops gantkeep4_belongs_r11))))
def gantkeep4_belongs_r12 : List LOper := [
  ⟨some 36, none, .bin .add (.t 15) (.c (.int .i64 1))⟩,
  ⟨some 15, none, .mv false (.t 36)⟩]
def gantkeep4_belongs_b0 : LCode := (.seq (.ops gantkeep4_belongs_r4) (.seq (.cond (.t 16) .skip (.exit 0)) (.seq (.block 1 (.seq (.ops gantkeep4_belongs_r5) (.seq (.ops gantkeep4_belongs_r6) (.block 2 (.loop [3, 4, 5, 14, 15, 18, 19] gantkeep4_belongs_b1))))) (.ops gantkeep4_belongs_r12))))
def gantkeep4_belongs_r13 : List LOper := [
  ⟨some 37, none, .mv false (.t 4)⟩,
  ⟨some 2, none, .mv false (.t 37)⟩]
def gantkeep4_belongs_f : LFunc := ⟨38, 1, [.tmp 2], (.seq (.ops gantkeep4_belongs_r0) (.seq (.ops gantkeep4_belongs_r1) (.seq (.ops gantkeep4_belongs_r2) (.seq (.seq (.ops gantkeep4_belongs_r3) (.block 0 (.loop [3, 4, 14, 15] gantkeep4_belongs_b0))) (.seq (.ops gantkeep4_belongs_r13) .ret)))))⟩
def gantkeep4_belongs_v : VFunc := ⟨gantkeep4_belongs_f, true, false, false⟩
theorem gantkeep4_belongs_ok : preFunc Try.prog ⟨[30], [], []⟩ Try.f8 [[3, 4, 14, 15], [3, 4, 5, 14, 15, 18, 19]] = some gantkeep4_belongs_f := by kernel_rfl

-- (*gantry/gantmake.Stream).Next
def gantmake_Stream_Next_r0 : List LOper := [
  ⟨some 4, none, .mv false (.c (.int .i64 0))⟩]
def gantmake_Stream_Next_r1 : List LOper := [
  ⟨some 6, none, .mv false (.t 0)⟩,
  ⟨some 7, none, .nilchk (.t 6)⟩,
  ⟨some 8, none, .fieldAddr 0 (.t 7)⟩,
  ⟨some 9, none, .load false false 1 (.t 8)⟩,
  ⟨some 10, none, .lenL (.t 9)⟩,
  ⟨some 11, none, .bin .eql (.t 10) (.c (.int .i64 0))⟩,
  ⟨some 12, none, .mv false (.t 11)⟩,
  ⟨some 13, some (12, false), .mv false (.t 1)⟩,
  ⟨some 14, some (12, false), .bin .lss (.t 13) (.c (.int .i64 1))⟩,
  ⟨some 15, none, .pick (.t 12) (.c (.bool true)) (.t 14)⟩]
def gantmake_Stream_Next_r2 : List LOper := [
  ⟨some 4, none, .mv false (.c (.int .i64 0))⟩]
def gantmake_Stream_Next_r3 : List LOper := [
  ⟨some 16, none, .mv false (.t 0)⟩,
  ⟨some 17, none, .nilchk (.t 16)⟩,
  ⟨some 18, none, .fieldAddr 0 (.t 17)⟩,
  ⟨some 19, none, .load false false 1 (.t 18)⟩,
  ⟨some 20, none, .indexAddr 1 (.t 19) (.c (.int .i64 0))⟩,
  ⟨some 21, none, .load false false 1 (.t 20)⟩,
  ⟨some 5, none, .mv false (.t 21)⟩]
def gantmake_Stream_Next_r4 : List LOper := [
  ⟨some 22, none, .mv false (.t 0)⟩,
  ⟨some 23, none, .mv false (.t 0)⟩,
  ⟨some 24, none, .nilchk (.t 23)⟩,
  ⟨some 25, none, .fieldAddr 0 (.t 24)⟩,
  ⟨some 26, none, .load false false 1 (.t 25)⟩,
  ⟨some 27, none, .slc 1 (.t 26) (some (.c (.int .i64 1))) none none⟩,
  ⟨some 28, none, .nilchk (.t 22)⟩,
  ⟨some 29, none, .fieldAddr 0 (.t 28)⟩,
  ⟨none, none, .store 1 (.t 29) (.t 27)⟩]
def gantmake_Stream_Next_r5 : List LOper := [
  ⟨some 30, none, .mv false (.t 5)⟩,
  ⟨some 31, none, .mv false (.t 1)⟩,
  ⟨some 32, none, .call false 15 [(.t 30), (.t 31)]⟩,
  ⟨some 4, none, .mv false (.t 32)⟩]
def gantmake_Stream_Next_f : LFunc := ⟨33, 2, [.tmp 4], (.seq (.ops gantmake_Stream_Next_r0) (.seq (.seq (.ops gantmake_Stream_Next_r1) (.cond (.t 15) (.seq (.ops gantmake_Stream_Next_r2) .ret) .skip)) (.seq (.ops gantmake_Stream_Next_r3) (.seq (.ops gantmake_Stream_Next_r4) (.seq (.ops gantmake_Stream_Next_r5) .ret)))))⟩
def gantmake_Stream_Next_v : VFunc := ⟨gantmake_Stream_Next_f, false, false, false⟩
theorem gantmake_Stream_Next_ok : preFunc Try.prog ⟨[], [], []⟩ Try.f9 [] = some gantmake_Stream_Next_f := by kernel_rfl

-- gantry/order.Times
def order_Times_r0 : List LOper := [
  ⟨some 4, none, .mv false (.c (.nilslice))⟩,
  ⟨some 5, none, .mv false (.c (.int .i64 0))⟩,
  ⟨some 6, none, .mv false (.c (.int .i64 0))⟩]
def order_Times_r1 : List LOper := [
  ⟨some 15, none, .mv false (.t 0)⟩,
  ⟨some 16, none, .mv false (.t 1)⟩,
  ⟨some 17, none, .call false 26 [(.t 15), (.t 16)]⟩,
  ⟨some 7, none, .mv false (.t 17)⟩]
def order_Times_r2 : List LOper := [
  ⟨some 18, none, .mv false (.t 7)⟩,
  ⟨some 19, none, .bin .neq (.t 18) (.c (.int .i64 0))⟩]
def order_Times_r3 : List LOper := [
  ⟨some 20, none, .mv false (.t 7)⟩,
  ⟨some 4, none, .mv false (.c (.nilslice))⟩,
  ⟨some 5, none, .mv false (.c (.int .i64 0))⟩,
  ⟨some 6, none, .mv false (.t 20)⟩]
def order_Times_r4 : List LOper := [
  ⟨some 8, none, .mv true (.c (.nilslice))⟩]
def order_Times_r5 : List LOper := [
  ⟨some 9, none, .mv false (.c (.int .i64 0))⟩]
def order_Times_r6 : List LOper := [
  ⟨some 21, none, .mv false (.t 0)⟩,
  ⟨some 22, none, .lenL (.t 21)⟩,
  ⟨some 23, none, .mv false (.c (.int .i64 0))⟩]
def order_Times_r7 : List LOper := [
  ⟨some 24, none, .bin .lss (.t 23) (.t 22)⟩]
def order_Times_r8 : List LOper := [
  ⟨some 25, none, .mv false (.t 23)⟩,
  ⟨some 26, none, .indexAddr 1 (.t 21) (.t 23)⟩,
  ⟨some 27, none, .load false false 1 (.t 26)⟩,
  ⟨some 10, none, .mv false (.t 25)⟩,
  ⟨some 11, none, .mv false (.t 27)⟩]
def order_Times_r9 : List LOper := [
  ⟨some 12, none, .mv false (.c (.int .i64 0))⟩]
def order_Times_r10 : List LOper := [
  ⟨some 28, none, .mv false (.t 11)⟩,
  ⟨some 29, none, .lenL (.t 28)⟩,
  ⟨some 30, none, .mv false (.c (.int .i64 0))⟩]
def order_Times_r11 : List LOper := [
  ⟨some 31, none, .bin .lss (.t 30) (.t 29)⟩]
def order_Times_r12 : List LOper := [
  ⟨some 32, none, .indexAddr 1 (.t 28) (.t 30)⟩,
  ⟨some 33, none, .load false false 1 (.t 32)⟩,
  ⟨some 14, none, .mv false (.t 33)⟩]
def order_Times_r13 : List LOper := [
  ⟨some 34, none, .mv false (.t 12)⟩,
  ⟨some 35, none, .mv false (.t 8)⟩,
  ⟨some 36, none, .mv false (.t 14)⟩,
  ⟨some 37, none, .indexAddr 1 (.t 35) (.t 36)⟩,
  ⟨some 38, none, .load false false 1 (.t 37)⟩,
  ⟨some 39, none, .mv false (.t 1)⟩,
  ⟨some 40, none, .mv false (.t 14)⟩,
  ⟨some 41, none, .indexAddr 1 (.t 39) (.t 40)⟩,
  ⟨some 42, none, .load false false 1 (.t 41)⟩,
  ⟨some 43, none, .bin .add (.t 38) (.t 42)⟩,
  ⟨some 44, none, .max2 [(.t 34), (.t 43)]⟩,
  ⟨some 12, none, .mv false (.t 44)⟩]
theorem order_Times_r13_d : drawC [0, 0, 0, 6, 14, 0, 0, 96, 224, 510, 1023, 2047] [
  ⟨some 34, none, .mv false (.t 12)⟩,
  ⟨some 35, none, .mv false (.t 8)⟩,
  ⟨some 36, none, .mv false (.t 14)⟩,
  ⟨some 37, none, .indexAddr 1 (.t 35) (.t 36)⟩,
  ⟨some 38, none, .load false false 1 (.t 37)⟩,
  ⟨some 39, none, .mv false (.t 1)⟩,
  ⟨some 40, none, .mv false (.t 14)⟩,
  ⟨some 41, none, .indexAddr 1 (.t 39) (.t 40)⟩,
  ⟨some 42, none, .load false false 1 (.t 41)⟩,
  ⟨some 43, none, .bin .add (.t 38) (.t 42)⟩,
  ⟨some 44, none, .max2 [(.t 34), (.t 43)]⟩,
  ⟨some 12, none, .mv false (.t 44)⟩] = true := by kernel_rfl
def order_Times_r14 : List LOper := [
  ⟨some 45, none, .bin .add (.t 30) (.c (.int .i64 1))⟩,
  ⟨some 30, none, .mv false (.t 45)⟩]
def order_Times_b1 : LCode := (.seq (.ops order_Times_r11) (.seq (.cond (.t 31) .skip (.exit 2)) (.seq (.block 3 (.seq (.ops order_Times_r12) (.dops [0, 0, 0, 6, 14, 0, 0, 96, 224, 510, 1023, 2047] order_Times_r13))) (.ops order_Times_r14))))
def order_Times_r15 : List LOper := [
  ⟨some 46, none, .mv true (.t 8)⟩,
  ⟨some 47, none, .mv false (.t 12)⟩,
  ⟨some 48, none, .bslice false 1 1 [.int .i64 0] [(0, 1, (.t 47))]⟩,
  ⟨some 49, none, .append true 1 8 (.t 46) (.t 48)⟩,
  ⟨some 8, none, .mv true (.t 49)⟩]
def order_Times_r16 : List LOper := [
  ⟨some 50, none, .mv false (.t 9)⟩,
  ⟨some 51, none, .mv false (.t 12)⟩,
  ⟨some 52, none, .mv false (.t 1)⟩,
  ⟨some 53, none, .mv false (.t 10)⟩,
  ⟨some 54, none, .indexAddr 1 (.t 52) (.t 53)⟩,
  ⟨some 55, none, .load false false 1 (.t 54)⟩,
  ⟨some 56, none, .bin .add (.t 51) (.t 55)⟩,
  ⟨some 57, none, .max2 [(.t 50), (.t 56)]⟩,
  ⟨some 9, none, .mv false (.t 57)⟩]
def order_Times_r17 : List LOper := [
  ⟨some 58, none, .bin .add (.t 23) (.c (.int .i64 1))⟩,
  ⟨some 23, none, .mv false (.t 58)⟩]
def order_Times_b0 : LCode := (.seq (.ops order_Times_r7) (.seq (.cond (.t 24) .skip (.exit 0)) (.seq (.block 1 (.seq (.ops order_Times_r8) (.seq (.ops order_Times_r9) (.seq (.seq (.ops order_Times_r10) (.block 2 (.loop [1, 8, 9, 10, 12, 21, 22, 23, 28, 29, 30] order_Times_b1))) (.seq (.ops order_Times_r15) (.ops order_Times_r16)))))) (.ops order_Times_r17))))
def order_Times_r18 : List LOper := [
  ⟨some 59, none, .mv false (.t 8)⟩,
  ⟨some 60, none, .mv false (.t 9)⟩,
  ⟨some 4, none, .mv false (.t 59)⟩,
  ⟨some 5, none, .mv false (.t 60)⟩,
  ⟨some 6, none, .mv false (.c (.int .i64 0))⟩]
def order_Times_f : LFunc := ⟨61, 2, [.tmp 4, .tmp 5, .tmp 6], (.seq (.ops order_Times_r0) (.seq (.seq (.ops order_Times_r1) (.seq (.ops order_Times_r2) (.cond (.t 19) (.seq (.ops order_Times_r3) .ret) .skip))) (.seq (.ops order_Times_r4) (.seq (.ops order_Times_r5) (.seq (.seq (.ops order_Times_r6) (.block 0 (.loop [1, 8, 9, 21, 22, 23] order_Times_b0))) (.seq (.ops order_Times_r18) .ret))))))⟩
def order_Times_v : VFunc := ⟨order_Times_f, true, false, false⟩
theorem order_Times_ok : preFunc Try.prog ⟨[8, 46, 49], [], []⟩ Try.f10 [[1, 8, 9, 21, 22, 23], [1, 8, 9, 10, 12, 21, 22, 23, 28, 29, 30]] = some order_Times_f := by kernel_rfl

-- gantry/order.Latest
def order_Latest_r0 : List LOper := [
  ⟨some 4, none, .mv false (.c (.nilslice))⟩,
  ⟨some 5, none, .mv false (.c (.int .i64 0))⟩]
def order_Latest_r1 : List LOper := [
  ⟨some 15, none, .mv false (.t 0)⟩,
  ⟨some 16, none, .mv false (.t 1)⟩,
  ⟨some 17, none, .call false 10 [(.t 15), (.t 16)]⟩,
  ⟨some 14, none, .mv false (.t 17)⟩,
  ⟨some 18, none, .extract 0 (.t 14)⟩,
  ⟨some 19, none, .extract 1 (.t 14)⟩,
  ⟨some 20, none, .extract 2 (.t 14)⟩,
  ⟨some 6, none, .mv false (.t 18)⟩,
  ⟨some 7, none, .mv false (.t 19)⟩,
  ⟨some 8, none, .mv false (.t 20)⟩]
def order_Latest_r2 : List LOper := [
  ⟨some 21, none, .mv false (.t 8)⟩,
  ⟨some 22, none, .bin .neq (.t 21) (.c (.int .i64 0))⟩]
def order_Latest_r3 : List LOper := [
  ⟨some 23, none, .mv false (.t 8)⟩,
  ⟨some 4, none, .mv false (.c (.nilslice))⟩,
  ⟨some 5, none, .mv false (.t 23)⟩]
def order_Latest_r4 : List LOper := [
  ⟨some 24, none, .mv false (.t 0)⟩,
  ⟨some 25, none, .lenL (.t 24)⟩,
  ⟨some 26, none, .make true 1 8 [.int .i64 0] (.t 25) (.t 25)⟩,
  ⟨some 9, none, .mv false (.t 26)⟩]
def order_Latest_r5 : List LOper := [
  ⟨some 27, none, .mv false (.t 9)⟩,
  ⟨some 28, none, .lenL (.t 27)⟩,
  ⟨some 29, none, .mv false (.c (.int .i64 0))⟩]
def order_Latest_r6 : List LOper := [
  ⟨some 30, none, .bin .lss (.t 29) (.t 28)⟩]
def order_Latest_r7 : List LOper := [
  ⟨some 31, none, .mv false (.t 29)⟩,
  ⟨some 10, none, .mv false (.t 31)⟩]
def order_Latest_r8 : List LOper := [
  ⟨some 32, none, .mv false (.t 9)⟩,
  ⟨some 33, none, .mv false (.t 10)⟩,
  ⟨some 34, none, .mv false (.t 7)⟩,
  ⟨some 35, none, .mv false (.t 1)⟩,
  ⟨some 36, none, .mv false (.t 10)⟩,
  ⟨some 37, none, .indexAddr 1 (.t 35) (.t 36)⟩,
  ⟨some 38, none, .load false false 1 (.t 37)⟩,
  ⟨some 39, none, .bin .sub (.t 34) (.t 38)⟩,
  ⟨some 40, none, .indexAddr 1 (.t 32) (.t 33)⟩,
  ⟨none, none, .store 1 (.t 40) (.t 39)⟩]
def order_Latest_r9 : List LOper := [
  ⟨some 41, none, .bin .add (.t 29) (.c (.int .i64 1))⟩,
  ⟨some 29, none, .mv false (.t 41)⟩]
def order_Latest_b0 : LCode := (.seq (.ops order_Latest_r6) (.seq (.cond (.t 30) .skip (.exit 0)) (.seq (.block 1 (.seq (.ops order_Latest_r7) (.ops order_Latest_r8))) (.ops order_Latest_r9))))
def order_Latest_r10 : List LOper := [
  ⟨some 42, none, .mv false (.t 0)⟩,
  ⟨some 43, none, .lenL (.t 42)⟩,
  ⟨some 44, none, .bin .sub (.t 43) (.c (.int .i64 1))⟩,
  ⟨some 11, none, .mv false (.t 44)⟩]
def order_Latest_r11 : List LOper := [
  ⟨some 45, none, .mv false (.t 11)⟩,
  ⟨some 46, none, .bin .geq (.t 45) (.c (.int .i64 0))⟩]
def order_Latest_r12 : List LOper := [
  ⟨some 49, none, .mv false (.t 0)⟩,
  ⟨some 50, none, .mv false (.t 11)⟩,
  ⟨some 51, none, .indexAddr 1 (.t 49) (.t 50)⟩,
  ⟨some 52, none, .load false false 1 (.t 51)⟩,
  ⟨some 53, none, .lenL (.t 52)⟩,
  ⟨some 54, none, .mv false (.c (.int .i64 0))⟩]
def order_Latest_r13 : List LOper := [
  ⟨some 55, none, .bin .lss (.t 54) (.t 53)⟩]
def order_Latest_r14 : List LOper := [
  ⟨some 56, none, .indexAddr 1 (.t 52) (.t 54)⟩,
  ⟨some 57, none, .load false false 1 (.t 56)⟩,
  ⟨some 13, none, .mv false (.t 57)⟩]
def order_Latest_r15 : List LOper := [
  ⟨some 58, none, .mv false (.t 9)⟩,
  ⟨some 59, none, .mv false (.t 13)⟩,
  ⟨some 60, none, .mv false (.t 9)⟩,
  ⟨some 61, none, .mv false (.t 13)⟩,
  ⟨some 62, none, .indexAddr 1 (.t 60) (.t 61)⟩,
  ⟨some 63, none, .load false false 1 (.t 62)⟩,
  ⟨some 64, none, .mv false (.t 9)⟩,
  ⟨some 65, none, .mv false (.t 11)⟩,
  ⟨some 66, none, .indexAddr 1 (.t 64) (.t 65)⟩,
  ⟨some 67, none, .load false false 1 (.t 66)⟩,
  ⟨some 68, none, .mv false (.t 1)⟩,
  ⟨some 69, none, .mv false (.t 13)⟩,
  ⟨some 70, none, .indexAddr 1 (.t 68) (.t 69)⟩,
  ⟨some 71, none, .load false false 1 (.t 70)⟩,
  ⟨some 72, none, .bin .sub (.t 67) (.t 71)⟩,
  ⟨some 73, none, .min2 [(.t 63), (.t 72)]⟩,
  ⟨some 74, none, .indexAddr 1 (.t 58) (.t 59)⟩,
  ⟨none, none, .store 1 (.t 74) (.t 73)⟩]
theorem order_Latest_r15_d : drawC [0, 0, 0, 0, 12, 28, 0, 0, 192, 448, 0, 0, 3072, 7168, 16320, 32764, 65535, 131071] [
  ⟨some 58, none, .mv false (.t 9)⟩,
  ⟨some 59, none, .mv false (.t 13)⟩,
  ⟨some 60, none, .mv false (.t 9)⟩,
  ⟨some 61, none, .mv false (.t 13)⟩,
  ⟨some 62, none, .indexAddr 1 (.t 60) (.t 61)⟩,
  ⟨some 63, none, .load false false 1 (.t 62)⟩,
  ⟨some 64, none, .mv false (.t 9)⟩,
  ⟨some 65, none, .mv false (.t 11)⟩,
  ⟨some 66, none, .indexAddr 1 (.t 64) (.t 65)⟩,
  ⟨some 67, none, .load false false 1 (.t 66)⟩,
  ⟨some 68, none, .mv false (.t 1)⟩,
  ⟨some 69, none, .mv false (.t 13)⟩,
  ⟨some 70, none, .indexAddr 1 (.t 68) (.t 69)⟩,
  ⟨some 71, none, .load false false 1 (.t 70)⟩,
  ⟨some 72, none, .bin .sub (.t 67) (.t 71)⟩,
  ⟨some 73, none, .min2 [(.t 63), (.t 72)]⟩,
  ⟨some 74, none, .indexAddr 1 (.t 58) (.t 59)⟩,
  ⟨none, none, .store 1 (.t 74) (.t 73)⟩] = true := by kernel_rfl
def order_Latest_r16 : List LOper := [
  ⟨some 75, none, .bin .add (.t 54) (.c (.int .i64 1))⟩,
  ⟨some 54, none, .mv false (.t 75)⟩]
def order_Latest_b2 : LCode := (.seq (.ops order_Latest_r13) (.seq (.cond (.t 55) .skip (.exit 4)) (.seq (.block 5 (.seq (.ops order_Latest_r14) (.dops [0, 0, 0, 0, 12, 28, 0, 0, 192, 448, 0, 0, 3072, 7168, 16320, 32764, 65535, 131071] order_Latest_r15))) (.ops order_Latest_r16))))
def order_Latest_r17 : List LOper := [
  ⟨some 47, none, .mv false (.t 11)⟩,
  ⟨some 48, none, .bin .sub (.t 47) (.c (.int .i64 1))⟩,
  ⟨some 11, none, .mv false (.t 48)⟩]
def order_Latest_b1 : LCode := (.seq (.seq (.ops order_Latest_r11) (.cond (.t 46) .skip (.exit 2))) (.seq (.block 3 (.seq (.ops order_Latest_r12) (.block 4 (.loop [0, 1, 9, 11, 52, 53, 54] order_Latest_b2)))) (.ops order_Latest_r17)))
def order_Latest_r18 : List LOper := [
  ⟨some 76, none, .mv false (.t 9)⟩,
  ⟨some 4, none, .mv false (.t 76)⟩,
  ⟨some 5, none, .mv false (.c (.int .i64 0))⟩]
def order_Latest_f : LFunc := ⟨77, 2, [.tmp 4, .tmp 5], (.seq (.ops order_Latest_r0) (.seq (.ops order_Latest_r1) (.seq (.seq (.ops order_Latest_r2) (.cond (.t 22) (.seq (.ops order_Latest_r3) .ret) .skip)) (.seq (.ops order_Latest_r4) (.seq (.seq (.ops order_Latest_r5) (.block 0 (.loop [0, 1, 7, 9, 28, 29] order_Latest_b0))) (.seq (.seq (.ops order_Latest_r10) (.block 2 (.loop [0, 1, 9, 11] order_Latest_b1))) (.seq (.ops order_Latest_r18) .ret)))))))⟩
def order_Latest_v : VFunc := ⟨order_Latest_f, true, false, false⟩
theorem order_Latest_ok : preFunc Try.prog ⟨[], [], []⟩ Try.f11 [[0, 1, 7, 9, 28, 29], [0, 1, 9, 11], [0, 1, 9, 11, 52, 53, 54]] = some order_Latest_f := by kernel_rfl

-- gantry/gantkeep4.ordered
def gantkeep4_ordered_r0 : List LOper := [
  ⟨some 0, none, .mv false (.c (.bool false))⟩]
def gantkeep4_ordered_r1 : List LOper := [
  ⟨some 1, none, .bslice false 0 1 [] []⟩,
  ⟨some 2, none, .bslice false 1 1 [.int .i64 0] [(0, 1, (.c (.int .i64 0)))]⟩,
  ⟨some 3, none, .bslice false 2 1 [.nilslice, .nilslice] [(0, 1, (.t 1)), (1, 1, (.t 2))]⟩,
  ⟨some 4, none, .bslice false 2 1 [.int .i64 0, .int .i64 0] [(0, 1, (.c (.int .i64 0))), (1, 1, (.c (.int .i64 1)))]⟩,
  ⟨some 5, none, .call false 27 [(.t 3), (.t 4)]⟩,
  ⟨some 6, none, .mv false (.t 5)⟩,
  ⟨some 7, some (6, true), .bslice false 0 1 [] []⟩,
  ⟨some 8, some (6, true), .bslice false 1 1 [.int .i64 0] [(0, 1, (.c (.int .i64 0)))]⟩,
  ⟨some 9, some (6, true), .bslice false 2 1 [.nilslice, .nilslice] [(0, 1, (.t 7)), (1, 1, (.t 8))]⟩,
  ⟨some 10, some (6, true), .bslice false 2 1 [.int .i64 0, .int .i64 0] [(0, 1, (.c (.int .i64 1))), (1, 1, (.c (.int .i64 0)))]⟩,
  ⟨some 11, some (6, true), .call false 27 [(.t 9), (.t 10)]⟩,
  ⟨some 12, some (6, true), .un .not (.t 11)⟩,
  ⟨some 13, none, .pick (.t 6) (.t 12) (.c (.bool false))⟩,
  ⟨some 0, none, .mv false (.t 13)⟩]
def gantkeep4_ordered_f : LFunc := ⟨14, 0, [.tmp 0], (.seq (.ops gantkeep4_ordered_r0) (.seq (.ops gantkeep4_ordered_r1) .ret))⟩
def gantkeep4_ordered_v : VFunc := ⟨gantkeep4_ordered_f, true, false, false⟩
theorem gantkeep4_ordered_ok : preFunc Try.prog ⟨[], [], []⟩ Try.f12 [] = some gantkeep4_ordered_f := by kernel_rfl

-- gantry/order.Critical
def order_Critical_r0 : List LOper := [
  ⟨some 4, none, .mv false (.c (.nilslice))⟩,
  ⟨some 5, none, .mv false (.c (.int .i64 0))⟩]
def order_Critical_r1 : List LOper := [
  ⟨some 14, none, .mv false (.t 0)⟩,
  ⟨some 15, none, .mv false (.t 1)⟩,
  ⟨some 16, none, .call false 10 [(.t 14), (.t 15)]⟩,
  ⟨some 13, none, .mv false (.t 16)⟩,
  ⟨some 17, none, .extract 0 (.t 13)⟩,
  ⟨some 18, none, .extract 1 (.t 13)⟩,
  ⟨some 19, none, .extract 2 (.t 13)⟩,
  ⟨some 6, none, .mv false (.t 17)⟩,
  ⟨some 7, none, .mv false (.t 18)⟩,
  ⟨some 8, none, .mv false (.t 19)⟩]
def order_Critical_r2 : List LOper := [
  ⟨some 20, none, .mv false (.t 8)⟩,
  ⟨some 21, none, .bin .neq (.t 20) (.c (.int .i64 0))⟩]
def order_Critical_r3 : List LOper := [
  ⟨some 22, none, .mv false (.t 8)⟩,
  ⟨some 4, none, .mv false (.c (.nilslice))⟩,
  ⟨some 5, none, .mv false (.t 22)⟩]
def order_Critical_r4 : List LOper := [
  ⟨some 24, none, .mv false (.t 0)⟩,
  ⟨some 25, none, .mv false (.t 1)⟩,
  ⟨some 26, none, .call false 11 [(.t 24), (.t 25)]⟩,
  ⟨some 23, none, .mv false (.t 26)⟩,
  ⟨some 27, none, .extract 0 (.t 23)⟩,
  ⟨some 28, none, .extract 1 (.t 23)⟩,
  ⟨some 9, none, .mv false (.t 27)⟩,
  ⟨some 10, none, .mv false (.t 28)⟩]
def order_Critical_r5 : List LOper := [
  ⟨some 11, none, .mv true (.c (.nilslice))⟩]
def order_Critical_r6 : List LOper := [
  ⟨some 29, none, .mv false (.t 0)⟩,
  ⟨some 30, none, .lenL (.t 29)⟩,
  ⟨some 31, none, .mv false (.c (.int .i64 0))⟩]
def order_Critical_r7 : List LOper := [
  ⟨some 32, none, .bin .lss (.t 31) (.t 30)⟩]
def order_Critical_r8 : List LOper := [
  ⟨some 33, none, .mv false (.t 31)⟩,
  ⟨some 12, none, .mv false (.t 33)⟩]
def order_Critical_r9 : List LOper := [
  ⟨some 34, none, .mv false (.t 6)⟩,
  ⟨some 35, none, .mv false (.t 12)⟩,
  ⟨some 36, none, .indexAddr 1 (.t 34) (.t 35)⟩,
  ⟨some 37, none, .load false false 1 (.t 36)⟩,
  ⟨some 38, none, .mv false (.t 9)⟩,
  ⟨some 39, none, .mv false (.t 12)⟩,
  ⟨some 40, none, .indexAddr 1 (.t 38) (.t 39)⟩,
  ⟨some 41, none, .load false false 1 (.t 40)⟩,
  ⟨some 42, none, .bin .eql (.t 37) (.t 41)⟩]
theorem order_Critical_r9_d : drawC [0, 0, 3, 7, 0, 0, 48, 112, 255] [
  ⟨some 34, none, .mv false (.t 6)⟩,
  ⟨some 35, none, .mv false (.t 12)⟩,
  ⟨some 36, none, .indexAddr 1 (.t 34) (.t 35)⟩,
  ⟨some 37, none, .load false false 1 (.t 36)⟩,
  ⟨some 38, none, .mv false (.t 9)⟩,
  ⟨some 39, none, .mv false (.t 12)⟩,
  ⟨some 40, none, .indexAddr 1 (.t 38) (.t 39)⟩,
  ⟨some 41, none, .load false false 1 (.t 40)⟩,
  ⟨some 42, none, .bin .eql (.t 37) (.t 41)⟩] = true := by kernel_rfl
def order_Critical_r10 : List LOper := [
  ⟨some 43, none, .mv true (.t 11)⟩,
  ⟨some 44, none, .mv false (.t 12)⟩,
  ⟨some 45, none, .bslice false 1 1 [.int .i64 0] [(0, 1, (.t 44))]⟩,
  ⟨some 46, none, .append true 1 8 (.t 43) (.t 45)⟩,
  ⟨some 11, none, .mv true (.t 46)⟩]
def order_Critical_r11 : List LOper := [
  ⟨some 47, none, .bin .add (.t 31) (.c (.int .i64 1))⟩,
  ⟨some 31, none, .mv false (.t 47)⟩]
def order_Critical_b0 : LCode := (.seq (.ops order_Critical_r7) (.seq (.cond (.t 32) .skip (.exit 0)) (.seq (.block 1 (.seq (.ops order_Critical_r8) (.seq (.dops [0, 0, 3, 7, 0, 0, 48, 112, 255] order_Critical_r9) (.cond (.t 42) (.ops order_Critical_r10) .skip)))) (.ops order_Critical_r11))))
def order_Critical_r12 : List LOper := [
  ⟨some 48, none, .mv false (.t 11)⟩,
  ⟨some 4, none, .mv false (.t 48)⟩,
  ⟨some 5, none, .mv false (.c (.int .i64 0))⟩]
def order_Critical_f : LFunc := ⟨49, 2, [.tmp 4, .tmp 5], (.seq (.ops order_Critical_r0) (.seq (.ops order_Critical_r1) (.seq (.seq (.ops order_Critical_r2) (.cond (.t 21) (.seq (.ops order_Critical_r3) .ret) .skip)) (.seq (.ops order_Critical_r4) (.seq (.ops order_Critical_r5) (.seq (.seq (.ops order_Critical_r6) (.block 0 (.loop [6, 9, 11, 30, 31] order_Critical_b0))) (.seq (.ops order_Critical_r12) .ret)))))))⟩
def order_Critical_v : VFunc := ⟨order_Critical_f, true, false, false⟩
theorem order_Critical_ok : preFunc Try.prog ⟨[11, 43, 46], [], []⟩ Try.f13 [[6, 9, 11, 30, 31]] = some order_Critical_f := by kernel_rfl

-- gantry/tools.Book
def tools_Book_r0 : List LOper := [
  ⟨some 3, none, .box (.t 1)⟩,
  ⟨some 4, none, .mv false (.c (.nilslice))⟩,
  ⟨some 5, none, .mv false (.c (.int .i64 0))⟩]
def tools_Book_r1 : List LOper := [
  ⟨some 9, none, .mv false (.t 0)⟩,
  ⟨some 10, none, .call false 28 [(.t 9)]⟩,
  ⟨some 6, none, .mv false (.t 10)⟩]
def tools_Book_r2 : List LOper := [
  ⟨some 11, none, .mv false (.t 6)⟩,
  ⟨some 12, none, .bin .neq (.t 11) (.c (.int .i64 0))⟩]
def tools_Book_r3 : List LOper := [
  ⟨some 13, none, .mv false (.t 6)⟩,
  ⟨some 4, none, .mv false (.c (.nilslice))⟩,
  ⟨some 5, none, .mv false (.t 13)⟩]
def tools_Book_r4 : List LOper := [
  ⟨some 14, none, .bslice false 0 3 [] []⟩,
  ⟨some 15, none, .mv false (.t 0)⟩,
  ⟨some 16, none, .append true 3 24 (.t 14) (.t 15)⟩,
  ⟨some 17, none, .load false true 3 (.t 3)⟩,
  ⟨some 18, none, .bslice false 1 3 [.int .i64 0, .int .i64 0, .int .i64 0] [(0, 3, (.t 17))]⟩,
  ⟨some 19, none, .append true 3 24 (.t 16) (.t 18)⟩,
  ⟨some 7, none, .mv false (.t 19)⟩]
theorem tools_Book_r4_d : drawC [0, 0, 3, 0, 8, 31, 63] [
  ⟨some 14, none, .bslice false 0 3 [] []⟩,
  ⟨some 15, none, .mv false (.t 0)⟩,
  ⟨some 16, none, .append true 3 24 (.t 14) (.t 15)⟩,
  ⟨some 17, none, .load false true 3 (.t 3)⟩,
  ⟨some 18, none, .bslice false 1 3 [.int .i64 0, .int .i64 0, .int .i64 0] [(0, 3, (.t 17))]⟩,
  ⟨some 19, none, .append true 3 24 (.t 16) (.t 18)⟩,
  ⟨some 7, none, .mv false (.t 19)⟩] = true := by kernel_rfl
def tools_Book_r5 : List LOper := [
  ⟨some 20, none, .mv false (.t 7)⟩,
  ⟨some 21, none, .call false 28 [(.t 20)]⟩,
  ⟨some 8, none, .mv false (.t 21)⟩]
def tools_Book_r6 : List LOper := [
  ⟨some 22, none, .mv false (.t 8)⟩,
  ⟨some 23, none, .bin .neq (.t 22) (.c (.int .i64 0))⟩]
def tools_Book_r7 : List LOper := [
  ⟨some 24, none, .mv false (.t 8)⟩,
  ⟨some 4, none, .mv false (.c (.nilslice))⟩,
  ⟨some 5, none, .mv false (.t 24)⟩]
def tools_Book_r8 : List LOper := [
  ⟨some 25, none, .mv false (.t 7)⟩,
  ⟨some 4, none, .mv false (.t 25)⟩,
  ⟨some 5, none, .mv false (.c (.int .i64 0))⟩]
def tools_Book_f : LFunc := ⟨26, 2, [.tmp 4, .tmp 5], (.seq (.ops tools_Book_r0) (.seq (.seq (.ops tools_Book_r1) (.seq (.ops tools_Book_r2) (.cond (.t 12) (.seq (.ops tools_Book_r3) .ret) .skip))) (.seq (.dops [0, 0, 3, 0, 8, 31, 63] tools_Book_r4) (.seq (.seq (.ops tools_Book_r5) (.seq (.ops tools_Book_r6) (.cond (.t 23) (.seq (.ops tools_Book_r7) .ret) .skip))) (.seq (.ops tools_Book_r8) .ret)))))⟩
def tools_Book_v : VFunc := ⟨tools_Book_f, true, false, false⟩
theorem tools_Book_ok : preFunc Try.prog ⟨[14, 16], [], []⟩ Try.f14 [] = some tools_Book_f := by kernel_rfl

-- gantry/gantmake.Below
def gantmake_Below_r0 : List LOper := [
  ⟨some 4, none, .mv false (.c (.int .i64 0))⟩]
def gantmake_Below_r1 : List LOper := [
  ⟨some 5, none, .mv false (.t 0)⟩,
  ⟨some 6, none, .mv false (.t 1)⟩,
  ⟨some 7, none, .bin .rem (.t 5) (.t 6)⟩,
  ⟨some 0, none, .mv false (.t 7)⟩]
def gantmake_Below_r2 : List LOper := [
  ⟨some 8, none, .mv false (.t 0)⟩,
  ⟨some 9, none, .bin .lss (.t 8) (.c (.int .i64 0))⟩]
def gantmake_Below_r3 : List LOper := [
  ⟨some 10, none, .mv false (.t 0)⟩,
  ⟨some 11, none, .mv false (.t 1)⟩,
  ⟨some 12, none, .bin .add (.t 10) (.t 11)⟩,
  ⟨some 0, none, .mv false (.t 12)⟩]
def gantmake_Below_r4 : List LOper := [
  ⟨some 13, none, .mv false (.t 0)⟩,
  ⟨some 4, none, .mv false (.t 13)⟩]
def gantmake_Below_f : LFunc := ⟨14, 2, [.tmp 4], (.seq (.ops gantmake_Below_r0) (.seq (.ops gantmake_Below_r1) (.seq (.seq (.ops gantmake_Below_r2) (.cond (.t 9) (.ops gantmake_Below_r3) .skip)) (.seq (.ops gantmake_Below_r4) .ret))))⟩
def gantmake_Below_v : VFunc := ⟨gantmake_Below_f, true, false, false⟩
theorem gantmake_Below_ok : preFunc Try.prog ⟨[], [], []⟩ Try.f15 [] = some gantmake_Below_f := by kernel_rfl

-- gantry/tools.First
def tools_First_r0 : List LOper := [
  ⟨some 8, none, .mv false (.c (.int .i64 0))⟩,
  ⟨some 9, none, .mv false (.c (.int .i64 0))⟩]
def tools_First_r1 : List LOper := [
  ⟨some 15, none, .mv false (.t 0)⟩,
  ⟨some 16, none, .call false 28 [(.t 15)]⟩,
  ⟨some 10, none, .mv false (.t 16)⟩]
def tools_First_r2 : List LOper := [
  ⟨some 17, none, .mv false (.t 10)⟩,
  ⟨some 18, none, .bin .neq (.t 17) (.c (.int .i64 0))⟩]
def tools_First_r3 : List LOper := [
  ⟨some 19, none, .mv false (.t 10)⟩,
  ⟨some 8, none, .mv false (.c (.int .i64 0))⟩,
  ⟨some 9, none, .mv false (.t 19)⟩]
def tools_First_r4 : List LOper := [
  ⟨some 20, none, .mv false (.t 1)⟩,
  ⟨some 21, none, .mv false (.t 2)⟩,
  ⟨some 22, none, .mv false (.t 3)⟩,
  ⟨some 23, none, .build [.int .i64 0, .int .i64 0, .int .i64 0] [(0, 1, (.t 20)), (1, 1, (.t 21)), (2, 1, (.t 22))]⟩,
  ⟨some 11, none, .alloc [.int .i64 0, .int .i64 0, .int .i64 0]⟩,
  ⟨none, none, .store 3 (.t 11) (.t 23)⟩]
def tools_First_r5 : List LOper := [
  ⟨some 24, none, .load false true 3 (.t 11)⟩,
  ⟨some 25, none, .call false 29 [(.t 24)]⟩,
  ⟨some 26, none, .un .not (.t 25)⟩]
def tools_First_r6 : List LOper := [
  ⟨some 8, none, .mv false (.c (.int .i64 0))⟩,
  ⟨some 9, none, .mv false (.c (.int .i64 1))⟩]
def tools_First_r7 : List LOper := [
  ⟨some 12, none, .mv false (.c (.bool true))⟩]
def tools_First_r8 : List LOper := [
  ⟨some 27, none, .mv false (.t 12)⟩]
def tools_First_r9 : List LOper := [
  ⟨some 12, none, .mv false (.c (.bool false))⟩]
def tools_First_r10 : List LOper := [
  ⟨some 28, none, .mv false (.t 0)⟩,
  ⟨some 29, none, .lenL (.t 28)⟩,
  ⟨some 30, none, .mv false (.c (.int .i64 0))⟩]
def tools_First_r11 : List LOper := [
  ⟨some 31, none, .bin .lss (.t 30) (.t 29)⟩]
def tools_First_r12 : List LOper := [
  ⟨some 32, none, .indexAddr 3 (.t 28) (.t 30)⟩,
  ⟨some 33, none, .load false true 3 (.t 32)⟩,
  ⟨some 14, none, .alloc [.int .i64 0, .int .i64 0, .int .i64 0]⟩,
  ⟨none, none, .store 3 (.t 14) (.t 33)⟩]
def tools_First_r13 : List LOper := [
  ⟨some 34, none, .load false true 3 (.t 11)⟩,
  ⟨some 35, none, .load false true 3 (.t 14)⟩,
  ⟨some 36, none, .call false 30 [(.t 34), (.t 35)]⟩]
def tools_First_r14 : List LOper := [
  ⟨some 37, none, .fieldAddr 1 (.t 14)⟩,
  ⟨some 38, none, .load false false 1 (.t 37)⟩,
  ⟨some 39, none, .fieldAddr 2 (.t 14)⟩,
  ⟨some 40, none, .load false false 1 (.t 39)⟩,
  ⟨some 41, none, .bin .add (.t 38) (.t 40)⟩,
  ⟨some 42, none, .fieldAddr 1 (.t 11)⟩,
  ⟨none, none, .store 1 (.t 42) (.t 41)⟩,
  ⟨some 12, none, .mv false (.c (.bool true))⟩]
def tools_First_r15 : List LOper := [
  ⟨some 43, none, .bin .add (.t 30) (.c (.int .i64 1))⟩,
  ⟨some 30, none, .mv false (.t 43)⟩]
def tools_First_b1 : LCode := (.seq (.ops tools_First_r11) (.seq (.cond (.t 31) .skip (.exit 2)) (.seq (.block 3 (.seq (.ops tools_First_r12) (.seq (.ops tools_First_r13) (.cond (.t 36) (.ops tools_First_r14) .skip)))) (.ops tools_First_r15))))
def tools_First_r16 : List LOper := [
  ⟨some 44, none, .load false true 3 (.t 11)⟩,
  ⟨some 45, none, .call false 29 [(.t 44)]⟩,
  ⟨some 46, none, .un .not (.t 45)⟩]
def tools_First_r17 : List LOper := [
  ⟨some 8, none, .mv false (.c (.int .i64 0))⟩,
  ⟨some 9, none, .mv false (.c (.int .i64 19))⟩]
def tools_First_b0 : LCode := (.seq (.seq (.ops tools_First_r8) (.cond (.t 27) .skip (.exit 0))) (.block 1 (.seq (.ops tools_First_r9) (.seq (.seq (.ops tools_First_r10) (.block 2 (.loop [0, 11, 12, 28, 29, 30] tools_First_b1))) (.seq (.ops tools_First_r16) (.cond (.t 46) (.seq (.ops tools_First_r17) .ret) .skip))))))
def tools_First_r18 : List LOper := [
  ⟨some 47, none, .fieldAddr 1 (.t 11)⟩,
  ⟨some 48, none, .load false false 1 (.t 47)⟩,
  ⟨some 8, none, .mv false (.t 48)⟩,
  ⟨some 9, none, .mv false (.c (.int .i64 0))⟩]
def tools_First_f : LFunc := ⟨49, 4, [.tmp 8, .tmp 9], (.seq (.ops tools_First_r0) (.seq (.seq (.ops tools_First_r1) (.seq (.ops tools_First_r2) (.cond (.t 18) (.seq (.ops tools_First_r3) .ret) .skip))) (.seq (.ops tools_First_r4) (.seq (.seq (.ops tools_First_r5) (.cond (.t 26) (.seq (.ops tools_First_r6) .ret) .skip)) (.seq (.seq (.ops tools_First_r7) (.block 0 (.loop [0, 11, 12] tools_First_b0))) (.seq (.ops tools_First_r18) .ret))))))⟩
def tools_First_v : VFunc := ⟨tools_First_f, true, false, false⟩
theorem tools_First_ok : preFunc Try.prog ⟨[], [], []⟩ Try.f16 [[0, 11, 12], [0, 11, 12, 28, 29, 30]] = some tools_First_f := by kernel_rfl

-- gantry/gantkeep4.tooled
def gantkeep4_tooled_r0 : List LOper := [
  ⟨some 0, none, .mv false (.c (.bool false))⟩]
def gantkeep4_tooled_r1 : List LOper := [
  ⟨some 4, none, .build [.int .i64 0, .int .i64 0, .nilslice] [(0, 1, (.c (.int .i64 0))), (1, 1, (.c (.int .i64 3)))]⟩,
  ⟨some 5, none, .build [.int .i64 0, .int .i64 0, .nilslice] [(0, 1, (.c (.int .i64 0))), (1, 1, (.c (.int .i64 2)))]⟩,
  ⟨some 6, none, .bslice false 2 3 [.int .i64 0, .int .i64 0, .nilslice, .int .i64 0, .int .i64 0, .nilslice] [(0, 3, (.t 4)), (3, 3, (.t 5))]⟩,
  ⟨some 7, none, .call false 20 [(.t 6)]⟩,
  ⟨some 3, none, .mv false (.t 7)⟩,
  ⟨some 8, none, .extract 0 (.t 3)⟩,
  ⟨some 9, none, .extract 1 (.t 3)⟩,
  ⟨some 1, none, .mv false (.t 8)⟩,
  ⟨some 2, none, .mv false (.t 9)⟩]
def gantkeep4_tooled_r2 : List LOper := [
  ⟨some 10, none, .mv false (.t 2)⟩,
  ⟨some 11, none, .bin .eql (.t 10) (.c (.int .i64 0))⟩,
  ⟨some 12, none, .mv false (.t 11)⟩,
  ⟨some 13, some (12, true), .mv false (.t 1)⟩,
  ⟨some 14, some (12, true), .bslice false 2 1 [.int .i64 0, .int .i64 0] [(0, 1, (.c (.int .i64 0))), (1, 1, (.c (.int .i64 3)))]⟩,
  ⟨some 15, some (12, true), .call false 25 [(.t 13), (.t 14)]⟩,
  ⟨some 16, none, .pick (.t 12) (.t 15) (.c (.bool false))⟩,
  ⟨some 0, none, .mv false (.t 16)⟩]
def gantkeep4_tooled_f : LFunc := ⟨17, 0, [.tmp 0], (.seq (.ops gantkeep4_tooled_r0) (.seq (.ops gantkeep4_tooled_r1) (.seq (.ops gantkeep4_tooled_r2) .ret)))⟩
def gantkeep4_tooled_v : VFunc := ⟨gantkeep4_tooled_f, true, false, false⟩
theorem gantkeep4_tooled_ok : preFunc Try.prog ⟨[], [], []⟩ Try.f17 [] = some gantkeep4_tooled_f := by kernel_rfl

-- gantry/tools.Busy
def tools_Busy_r0 : List LOper := [
  ⟨some 8, none, .mv false (.c (.int .i64 0))⟩,
  ⟨some 9, none, .mv false (.c (.int .i64 0))⟩]
def tools_Busy_r1 : List LOper := [
  ⟨some 14, none, .mv false (.t 0)⟩,
  ⟨some 15, none, .call false 28 [(.t 14)]⟩,
  ⟨some 10, none, .mv false (.t 15)⟩]
def tools_Busy_r2 : List LOper := [
  ⟨some 16, none, .mv false (.t 10)⟩,
  ⟨some 17, none, .bin .neq (.t 16) (.c (.int .i64 0))⟩]
def tools_Busy_r3 : List LOper := [
  ⟨some 18, none, .mv false (.t 10)⟩,
  ⟨some 8, none, .mv false (.c (.int .i64 0))⟩,
  ⟨some 9, none, .mv false (.t 18)⟩]
def tools_Busy_r4 : List LOper := [
  ⟨some 11, none, .mv false (.c (.int .i64 0))⟩]
def tools_Busy_r5 : List LOper := [
  ⟨some 19, none, .mv false (.t 0)⟩,
  ⟨some 20, none, .lenL (.t 19)⟩,
  ⟨some 21, none, .mv false (.c (.int .i64 0))⟩]
def tools_Busy_r6 : List LOper := [
  ⟨some 22, none, .bin .lss (.t 21) (.t 20)⟩]
def tools_Busy_r7 : List LOper := [
  ⟨some 23, none, .indexAddr 3 (.t 19) (.t 21)⟩,
  ⟨some 24, none, .load false true 3 (.t 23)⟩,
  ⟨some 13, none, .alloc [.int .i64 0, .int .i64 0, .int .i64 0]⟩,
  ⟨none, none, .store 3 (.t 13) (.t 24)⟩]
def tools_Busy_r8 : List LOper := [
  ⟨some 25, none, .fieldAddr 0 (.t 13)⟩,
  ⟨some 26, none, .load false false 1 (.t 25)⟩,
  ⟨some 27, none, .mv false (.t 1)⟩,
  ⟨some 28, none, .bin .eql (.t 26) (.t 27)⟩]
def tools_Busy_r9 : List LOper := [
  ⟨some 29, none, .mv false (.t 11)⟩,
  ⟨some 30, none, .fieldAddr 1 (.t 13)⟩,
  ⟨some 31, none, .load false false 1 (.t 30)⟩,
  ⟨some 32, none, .fieldAddr 2 (.t 13)⟩,
  ⟨some 33, none, .load false false 1 (.t 32)⟩,
  ⟨some 34, none, .bin .add (.t 31) (.t 33)⟩,
  ⟨some 35, none, .mv false (.t 3)⟩,
  ⟨some 36, none, .max2 [(.t 35), (.c (.int .i64 0))]⟩,
  ⟨some 37, none, .min2 [(.t 34), (.t 36)]⟩,
  ⟨some 38, none, .fieldAddr 1 (.t 13)⟩,
  ⟨some 39, none, .load false false 1 (.t 38)⟩,
  ⟨some 40, none, .mv false (.t 2)⟩,
  ⟨some 41, none, .max2 [(.t 39), (.t 40)]⟩,
  ⟨some 42, none, .bin .sub (.t 37) (.t 41)⟩,
  ⟨some 43, none, .max2 [(.t 42), (.c (.int .i64 0))]⟩,
  ⟨some 44, none, .bin .add (.t 29) (.t 43)⟩,
  ⟨some 11, none, .mv false (.t 44)⟩]
def tools_Busy_r10 : List LOper := [
  ⟨some 45, none, .bin .add (.t 21) (.c (.int .i64 1))⟩,
  ⟨some 21, none, .mv false (.t 45)⟩]
def tools_Busy_b0 : LCode := (.seq (.ops tools_Busy_r6) (.seq (.cond (.t 22) .skip (.exit 0)) (.seq (.block 1 (.seq (.ops tools_Busy_r7) (.seq (.ops tools_Busy_r8) (.cond (.t 28) (.ops tools_Busy_r9) .skip)))) (.ops tools_Busy_r10))))
def tools_Busy_r11 : List LOper := [
  ⟨some 46, none, .mv false (.t 11)⟩,
  ⟨some 8, none, .mv false (.t 46)⟩,
  ⟨some 9, none, .mv false (.c (.int .i64 0))⟩]
def tools_Busy_f : LFunc := ⟨47, 4, [.tmp 8, .tmp 9], (.seq (.ops tools_Busy_r0) (.seq (.seq (.ops tools_Busy_r1) (.seq (.ops tools_Busy_r2) (.cond (.t 17) (.seq (.ops tools_Busy_r3) .ret) .skip))) (.seq (.ops tools_Busy_r4) (.seq (.seq (.ops tools_Busy_r5) (.block 0 (.loop [1, 2, 3, 11, 19, 20, 21] tools_Busy_b0))) (.seq (.ops tools_Busy_r11) .ret)))))⟩
def tools_Busy_v : VFunc := ⟨tools_Busy_f, true, false, false⟩
theorem tools_Busy_ok : preFunc Try.prog ⟨[], [], []⟩ Try.f18 [[1, 2, 3, 11, 19, 20, 21]] = some tools_Busy_f := by kernel_rfl

-- gantry/gantkeep4.Tasks
def gantkeep4_Tasks_r0 : List LOper := [
  ⟨some 2, none, .mv false (.c (.nilslice))⟩]
def gantkeep4_Tasks_r1 : List LOper := [
  ⟨some 8, none, .mv false (.t 0)⟩,
  ⟨some 9, none, .build [.nilslice] [(0, 1, (.t 8))]⟩,
  ⟨some 10, none, .box (.t 9)⟩,
  ⟨some 3, none, .mv false (.t 10)⟩]
def gantkeep4_Tasks_r2 : List LOper := [
  ⟨some 4, none, .mv true (.c (.nilslice))⟩]
def gantkeep4_Tasks_r3 : List LOper := [
  ⟨some 11, none, .mv false (.t 3)⟩,
  ⟨some 12, none, .call false 9 [(.t 11), (.c (.int .i64 10))]⟩,
  ⟨some 13, none, .mv false (.c (.int .i64 0))⟩]
def gantkeep4_Tasks_r4 : List LOper := [
  ⟨some 14, none, .bin .lss (.t 13) (.t 12)⟩]
def gantkeep4_Tasks_r5 : List LOper := [
  ⟨some 15, none, .mv false (.t 13)⟩,
  ⟨some 5, none, .mv false (.t 15)⟩]
def gantkeep4_Tasks_r6 : List LOper := [
  ⟨some 16, none, .mv false (.t 3)⟩,
  ⟨some 17, none, .call false 9 [(.t 16), (.c (.int .i64 4))]⟩,
  ⟨some 18, none, .bin .sub (.t 17) (.c (.int .i64 1))⟩,
  ⟨some 19, none, .mv false (.t 3)⟩,
  ⟨some 20, none, .call false 9 [(.t 19), (.c (.int .i64 20))]⟩,
  ⟨some 21, none, .bin .add (.c (.int .i64 1)) (.t 20)⟩,
  ⟨some 22, none, .build [.int .i64 0, .int .i64 0, .nilslice] [(0, 1, (.t 18)), (1, 1, (.t 21))]⟩,
  ⟨some 6, none, .alloc [.int .i64 0, .int .i64 0, .nilslice]⟩,
  ⟨none, none, .store 3 (.t 6) (.t 22)⟩]
def gantkeep4_Tasks_r7 : List LOper := [
  ⟨some 23, none, .mv false (.t 5)⟩,
  ⟨some 24, none, .mv false (.c (.int .i64 0))⟩]
def gantkeep4_Tasks_r8 : List LOper := [
  ⟨some 25, none, .bin .lss (.t 24) (.t 23)⟩]
def gantkeep4_Tasks_r9 : List LOper := [
  ⟨some 26, none, .mv false (.t 24)⟩,
  ⟨some 7, none, .mv false (.t 26)⟩]
def gantkeep4_Tasks_r10 : List LOper := [
  ⟨some 27, none, .mv false (.t 3)⟩,
  ⟨some 28, none, .call false 9 [(.t 27), (.c (.int .i64 4))]⟩,
  ⟨some 29, none, .bin .eql (.t 28) (.c (.int .i64 0))⟩]
def gantkeep4_Tasks_r11 : List LOper := [
  ⟨some 30, none, .fieldAddr 2 (.t 6)⟩,
  ⟨some 31, none, .load true false 1 (.t 30)⟩,
  ⟨some 32, none, .mv false (.t 7)⟩,
  ⟨some 33, none, .bslice false 1 1 [.int .i64 0] [(0, 1, (.t 32))]⟩,
  ⟨some 34, none, .append true 1 8 (.t 31) (.t 33)⟩,
  ⟨some 35, none, .fieldAddr 2 (.t 6)⟩,
  ⟨none, none, .store 1 (.t 35) (.t 34)⟩]
def gantkeep4_Tasks_r12 : List LOper := [
  ⟨some 36, none, .bin .add (.t 24) (.c (.int .i64 1))⟩,
  ⟨some 24, none, .mv false (.t 36)⟩]
def gantkeep4_Tasks_b1 : LCode := (.seq (.ops gantkeep4_Tasks_r8) (.seq (.cond (.t 25) .skip (.exit 2)) (.seq (.block 3 (.seq (.ops gantkeep4_Tasks_r9) (.seq (.ops gantkeep4_Tasks_r10) (.cond (.t 29) (.ops gantkeep4_Tasks_r11) .skip)))) (.ops gantkeep4_Tasks_r12))))
def gantkeep4_Tasks_r13 : List LOper := [
  ⟨some 37, none, .mv true (.t 4)⟩,
  ⟨some 38, none, .load false true 3 (.t 6)⟩,
  ⟨some 39, none, .bslice false 1 3 [.int .i64 0, .int .i64 0, .nilslice] [(0, 3, (.t 38))]⟩,
  ⟨some 40, none, .append true 3 40 (.t 37) (.t 39)⟩,
  ⟨some 4, none, .mv true (.t 40)⟩]
def gantkeep4_Tasks_r14 : List LOper := [
  ⟨some 41, none, .bin .add (.t 13) (.c (.int .i64 1))⟩,
  ⟨some 13, none, .mv false (.t 41)⟩]
def gantkeep4_Tasks_b0 : LCode := (.seq (.ops gantkeep4_Tasks_r4) (.seq (.cond (.t 14) .skip (.exit 0)) (.seq (.block 1 (.seq (.ops gantkeep4_Tasks_r5) (.seq (.ops gantkeep4_Tasks_r6) (.seq (.seq (.ops gantkeep4_Tasks_r7) (.block 2 (.loop [3, 4, 6, 12, 13, 23, 24] gantkeep4_Tasks_b1))) (.ops gantkeep4_Tasks_r13))))) (.ops gantkeep4_Tasks_r14))))
def gantkeep4_Tasks_r15 : List LOper := [
  ⟨some 42, none, .mv false (.t 4)⟩,
  ⟨some 2, none, .mv false (.t 42)⟩]
def gantkeep4_Tasks_f : LFunc := ⟨43, 1, [.tmp 2], (.seq (.ops gantkeep4_Tasks_r0) (.seq (.ops gantkeep4_Tasks_r1) (.seq (.ops gantkeep4_Tasks_r2) (.seq (.seq (.ops gantkeep4_Tasks_r3) (.block 0 (.loop [3, 4, 12, 13] gantkeep4_Tasks_b0))) (.seq (.ops gantkeep4_Tasks_r15) .ret)))))⟩
def gantkeep4_Tasks_v : VFunc := ⟨gantkeep4_Tasks_f, true, false, false⟩
theorem gantkeep4_Tasks_ok : preFunc Try.prog ⟨[4, 31, 37, 40], [], []⟩ Try.f19 [[3, 4, 12, 13], [3, 4, 6, 12, 13, 23, 24]] = some gantkeep4_Tasks_f := by kernel_rfl

-- gantry/tools.Plan
def tools_Plan_r0 : List LOper := [
  ⟨some 2, none, .mv false (.c (.nilslice))⟩,
  ⟨some 3, none, .mv false (.c (.int .i64 0))⟩]
def tools_Plan_r1 : List LOper := [
  ⟨some 14, none, .mv false (.t 0)⟩,
  ⟨some 15, none, .call false 31 [(.t 14)]⟩,
  ⟨some 4, none, .mv false (.t 15)⟩]
def tools_Plan_r2 : List LOper := [
  ⟨some 16, none, .mv false (.t 4)⟩,
  ⟨some 17, none, .bin .neq (.t 16) (.c (.int .i64 0))⟩]
def tools_Plan_r3 : List LOper := [
  ⟨some 18, none, .mv false (.t 4)⟩,
  ⟨some 2, none, .mv false (.c (.nilslice))⟩,
  ⟨some 3, none, .mv false (.t 18)⟩]
def tools_Plan_r4 : List LOper := [
  ⟨some 5, none, .mv true (.c (.nilslice))⟩]
def tools_Plan_r5 : List LOper := [
  ⟨some 6, none, .mv true (.c (.nilslice))⟩]
def tools_Plan_r6 : List LOper := [
  ⟨some 19, none, .mv false (.t 0)⟩,
  ⟨some 20, none, .lenL (.t 19)⟩,
  ⟨some 21, none, .mv false (.c (.int .i64 0))⟩]
def tools_Plan_r7 : List LOper := [
  ⟨some 22, none, .bin .lss (.t 21) (.t 20)⟩]
def tools_Plan_r8 : List LOper := [
  ⟨some 23, none, .indexAddr 3 (.t 19) (.t 21)⟩,
  ⟨some 24, none, .load false true 3 (.t 23)⟩,
  ⟨some 8, none, .alloc [.int .i64 0, .int .i64 0, .nilslice]⟩,
  ⟨none, none, .store 3 (.t 8) (.t 24)⟩]
def tools_Plan_r9 : List LOper := [
  ⟨some 9, none, .mv false (.c (.int .i64 0))⟩]
def tools_Plan_r10 : List LOper := [
  ⟨some 25, none, .fieldAddr 2 (.t 8)⟩,
  ⟨some 26, none, .load false false 1 (.t 25)⟩,
  ⟨some 27, none, .lenL (.t 26)⟩,
  ⟨some 28, none, .mv false (.c (.int .i64 0))⟩]
def tools_Plan_r11 : List LOper := [
  ⟨some 29, none, .bin .lss (.t 28) (.t 27)⟩]
def tools_Plan_r12 : List LOper := [
  ⟨some 30, none, .indexAddr 1 (.t 26) (.t 28)⟩,
  ⟨some 31, none, .load false false 1 (.t 30)⟩,
  ⟨some 11, none, .mv false (.t 31)⟩]
def tools_Plan_r13 : List LOper := [
  ⟨some 32, none, .mv false (.t 9)⟩,
  ⟨some 33, none, .mv false (.t 5)⟩,
  ⟨some 34, none, .mv false (.t 11)⟩,
  ⟨some 35, none, .indexAddr 1 (.t 33) (.t 34)⟩,
  ⟨some 36, none, .load false false 1 (.t 35)⟩,
  ⟨some 37, none, .mv false (.t 0)⟩,
  ⟨some 38, none, .mv false (.t 11)⟩,
  ⟨some 39, none, .indexAddr 3 (.t 37) (.t 38)⟩,
  ⟨some 40, none, .fieldAddr 1 (.t 39)⟩,
  ⟨some 41, none, .load false false 1 (.t 40)⟩,
  ⟨some 42, none, .bin .add (.t 36) (.t 41)⟩,
  ⟨some 43, none, .max2 [(.t 32), (.t 42)]⟩,
  ⟨some 9, none, .mv false (.t 43)⟩]
theorem tools_Plan_r13_d : drawC [0, 0, 0, 6, 14, 0, 0, 96, 224, 480, 1022, 2047, 4095] [
  ⟨some 32, none, .mv false (.t 9)⟩,
  ⟨some 33, none, .mv false (.t 5)⟩,
  ⟨some 34, none, .mv false (.t 11)⟩,
  ⟨some 35, none, .indexAddr 1 (.t 33) (.t 34)⟩,
  ⟨some 36, none, .load false false 1 (.t 35)⟩,
  ⟨some 37, none, .mv false (.t 0)⟩,
  ⟨some 38, none, .mv false (.t 11)⟩,
  ⟨some 39, none, .indexAddr 3 (.t 37) (.t 38)⟩,
  ⟨some 40, none, .fieldAddr 1 (.t 39)⟩,
  ⟨some 41, none, .load false false 1 (.t 40)⟩,
  ⟨some 42, none, .bin .add (.t 36) (.t 41)⟩,
  ⟨some 43, none, .max2 [(.t 32), (.t 42)]⟩,
  ⟨some 9, none, .mv false (.t 43)⟩] = true := by kernel_rfl
def tools_Plan_r14 : List LOper := [
  ⟨some 44, none, .bin .add (.t 28) (.c (.int .i64 1))⟩,
  ⟨some 28, none, .mv false (.t 44)⟩]
def tools_Plan_b1 : LCode := (.seq (.ops tools_Plan_r11) (.seq (.cond (.t 29) .skip (.exit 2)) (.seq (.block 3 (.seq (.ops tools_Plan_r12) (.dops [0, 0, 0, 6, 14, 0, 0, 96, 224, 480, 1022, 2047, 4095] tools_Plan_r13))) (.ops tools_Plan_r14))))
def tools_Plan_r15 : List LOper := [
  ⟨some 45, none, .mv false (.t 9)⟩,
  ⟨some 46, none, .fieldAddr 1 (.t 8)⟩,
  ⟨some 47, none, .load false false 1 (.t 46)⟩,
  ⟨some 48, none, .bin .sub (.c (.int .i64 2000)) (.t 47)⟩,
  ⟨some 49, none, .bin .gtr (.t 45) (.t 48)⟩]
def tools_Plan_r16 : List LOper := [
  ⟨some 2, none, .mv false (.c (.nilslice))⟩,
  ⟨some 3, none, .mv false (.c (.int .i64 19))⟩]
def tools_Plan_r17 : List LOper := [
  ⟨some 50, none, .fieldAddr 0 (.t 8)⟩,
  ⟨some 51, none, .load false false 1 (.t 50)⟩,
  ⟨some 52, none, .bin .geq (.t 51) (.c (.int .i64 0))⟩]
def tools_Plan_r18 : List LOper := [
  ⟨some 54, none, .mv false (.t 6)⟩,
  ⟨some 55, none, .fieldAddr 0 (.t 8)⟩,
  ⟨some 56, none, .load false false 1 (.t 55)⟩,
  ⟨some 57, none, .mv false (.t 9)⟩,
  ⟨some 58, none, .fieldAddr 1 (.t 8)⟩,
  ⟨some 59, none, .load false false 1 (.t 58)⟩,
  ⟨some 60, none, .call false 16 [(.t 54), (.t 56), (.t 57), (.t 59)]⟩,
  ⟨some 53, none, .mv false (.t 60)⟩,
  ⟨some 61, none, .extract 0 (.t 53)⟩,
  ⟨some 62, none, .extract 1 (.t 53)⟩,
  ⟨some 12, none, .mv false (.t 61)⟩,
  ⟨some 13, none, .mv false (.t 62)⟩]
def tools_Plan_r19 : List LOper := [
  ⟨some 63, none, .mv false (.t 13)⟩,
  ⟨some 64, none, .bin .neq (.t 63) (.c (.int .i64 0))⟩]
def tools_Plan_r20 : List LOper := [
  ⟨some 65, none, .mv false (.t 13)⟩,
  ⟨some 2, none, .mv false (.c (.nilslice))⟩,
  ⟨some 3, none, .mv false (.t 65)⟩]
def tools_Plan_r21 : List LOper := [
  ⟨some 66, none, .mv false (.t 12)⟩,
  ⟨some 9, none, .mv false (.t 66)⟩]
def tools_Plan_r22 : List LOper := [
  ⟨some 67, none, .mv true (.t 6)⟩,
  ⟨some 68, none, .fieldAddr 0 (.t 8)⟩,
  ⟨some 69, none, .load false false 1 (.t 68)⟩,
  ⟨some 70, none, .mv false (.t 9)⟩,
  ⟨some 71, none, .fieldAddr 1 (.t 8)⟩,
  ⟨some 72, none, .load false false 1 (.t 71)⟩,
  ⟨some 73, none, .build [.int .i64 0, .int .i64 0, .int .i64 0] [(0, 1, (.t 69)), (1, 1, (.t 70)), (2, 1, (.t 72))]⟩,
  ⟨some 74, none, .bslice false 1 3 [.int .i64 0, .int .i64 0, .int .i64 0] [(0, 3, (.t 73))]⟩,
  ⟨some 75, none, .append true 3 24 (.t 67) (.t 74)⟩,
  ⟨some 6, none, .mv true (.t 75)⟩]
def tools_Plan_r23 : List LOper := [
  ⟨some 76, none, .mv true (.t 5)⟩,
  ⟨some 77, none, .mv false (.t 9)⟩,
  ⟨some 78, none, .bslice false 1 1 [.int .i64 0] [(0, 1, (.t 77))]⟩,
  ⟨some 79, none, .append true 1 8 (.t 76) (.t 78)⟩,
  ⟨some 5, none, .mv true (.t 79)⟩]
def tools_Plan_r24 : List LOper := [
  ⟨some 80, none, .bin .add (.t 21) (.c (.int .i64 1))⟩,
  ⟨some 21, none, .mv false (.t 80)⟩]
def tools_Plan_b0 : LCode := (.seq (.ops tools_Plan_r7) (.seq (.cond (.t 22) .skip (.exit 0)) (.seq (.block 1 (.seq (.ops tools_Plan_r8) (.seq (.ops tools_Plan_r9) (.seq (.seq (.ops tools_Plan_r10) (.block 2 (.loop [0, 5, 6, 8, 9, 19, 20, 21, 26, 27, 28] tools_Plan_b1))) (.seq (.seq (.ops tools_Plan_r15) (.cond (.t 49) (.seq (.ops tools_Plan_r16) .ret) .skip)) (.seq (.seq (.ops tools_Plan_r17) (.cond (.t 52) (.seq (.ops tools_Plan_r18) (.seq (.seq (.ops tools_Plan_r19) (.cond (.t 64) (.seq (.ops tools_Plan_r20) .ret) .skip)) (.seq (.ops tools_Plan_r21) (.ops tools_Plan_r22)))) .skip)) (.ops tools_Plan_r23))))))) (.ops tools_Plan_r24))))
def tools_Plan_r25 : List LOper := [
  ⟨some 81, none, .mv false (.t 5)⟩,
  ⟨some 2, none, .mv false (.t 81)⟩,
  ⟨some 3, none, .mv false (.c (.int .i64 0))⟩]
def tools_Plan_f : LFunc := ⟨82, 1, [.tmp 2, .tmp 3], (.seq (.ops tools_Plan_r0) (.seq (.seq (.ops tools_Plan_r1) (.seq (.ops tools_Plan_r2) (.cond (.t 17) (.seq (.ops tools_Plan_r3) .ret) .skip))) (.seq (.ops tools_Plan_r4) (.seq (.ops tools_Plan_r5) (.seq (.seq (.ops tools_Plan_r6) (.block 0 (.loop [0, 5, 6, 19, 20, 21] tools_Plan_b0))) (.seq (.ops tools_Plan_r25) .ret))))))⟩
def tools_Plan_v : VFunc := ⟨tools_Plan_f, true, false, false⟩
theorem tools_Plan_ok : preFunc Try.prog ⟨[5, 6, 67, 75, 76, 79], [], []⟩ Try.f20 [[0, 5, 6, 19, 20, 21], [0, 5, 6, 8, 9, 19, 20, 21, 26, 27, 28]] = some tools_Plan_f := by kernel_rfl

-- slices.Clone[[]int,int]
def slices_Clone_intint_r0 : List LOper := [
  ⟨some 2, none, .mv false (.c (.nilslice))⟩]
def slices_Clone_intint_r1 : List LOper := [
  ⟨some 3, none, .mv false (.t 0)⟩,
  ⟨some 4, none, .eqv false .slice (.t 3) (.c (.nilslice))⟩]
def slices_Clone_intint_r2 : List LOper := [
  ⟨some 2, none, .mv false (.c (.nilslice))⟩]
def slices_Clone_intint_r3 : List LOper := [
  ⟨some 5, none, .bslice false 0 1 [] []⟩,
  ⟨some 6, none, .mv false (.t 0)⟩,
  ⟨some 7, none, .append true 1 8 (.t 5) (.t 6)⟩,
  ⟨some 2, none, .mv false (.t 7)⟩]
def slices_Clone_intint_f : LFunc := ⟨8, 1, [.tmp 2], (.seq (.ops slices_Clone_intint_r0) (.seq (.seq (.ops slices_Clone_intint_r1) (.cond (.t 4) (.seq (.ops slices_Clone_intint_r2) .ret) .skip)) (.seq (.ops slices_Clone_intint_r3) .ret)))⟩
def slices_Clone_intint_v : VFunc := ⟨(cloneA false false true 1 8), true, false, false⟩
theorem slices_Clone_intint_ok : preFunc Try.prog ⟨[5], [], []⟩ Try.f21 [] = some slices_Clone_intint_f := by kernel_rfl

-- gantry/tools.Right
def tools_Right_r0 : List LOper := [
  ⟨some 4, none, .mv false (.c (.bool false))⟩]
def tools_Right_r1 : List LOper := [
  ⟨some 10, none, .mv false (.t 0)⟩,
  ⟨some 11, none, .call false 31 [(.t 10)]⟩,
  ⟨some 12, none, .bin .neq (.t 11) (.c (.int .i64 0))⟩,
  ⟨some 13, none, .mv false (.t 12)⟩,
  ⟨some 14, some (13, false), .mv false (.t 1)⟩,
  ⟨some 15, some (13, false), .lenL (.t 14)⟩,
  ⟨some 16, some (13, false), .mv false (.t 0)⟩,
  ⟨some 17, some (13, false), .lenL (.t 16)⟩,
  ⟨some 18, some (13, false), .bin .neq (.t 15) (.t 17)⟩,
  ⟨some 19, none, .pick (.t 13) (.c (.bool true)) (.t 18)⟩]
def tools_Right_r2 : List LOper := [
  ⟨some 4, none, .mv false (.c (.bool false))⟩]
def tools_Right_r3 : List LOper := [
  ⟨some 5, none, .mv true (.c (.nilslice))⟩]
def tools_Right_r4 : List LOper := [
  ⟨some 20, none, .mv false (.t 0)⟩,
  ⟨some 21, none, .lenL (.t 20)⟩,
  ⟨some 22, none, .mv false (.c (.int .i64 0))⟩]
def tools_Right_r5 : List LOper := [
  ⟨some 23, none, .bin .lss (.t 22) (.t 21)⟩]
def tools_Right_r6 : List LOper := [
  ⟨some 24, none, .mv false (.t 22)⟩,
  ⟨some 25, none, .indexAddr 3 (.t 20) (.t 22)⟩,
  ⟨some 26, none, .load false true 3 (.t 25)⟩,
  ⟨some 7, none, .alloc [.int .i64 0, .int .i64 0, .nilslice]⟩,
  ⟨some 6, none, .mv false (.t 24)⟩,
  ⟨none, none, .store 3 (.t 7) (.t 26)⟩]
def tools_Right_r7 : List LOper := [
  ⟨some 27, none, .mv false (.t 1)⟩,
  ⟨some 28, none, .mv false (.t 6)⟩,
  ⟨some 29, none, .indexAddr 1 (.t 27) (.t 28)⟩,
  ⟨some 30, none, .load false false 1 (.t 29)⟩,
  ⟨some 31, none, .bin .lss (.t 30) (.c (.int .i64 0))⟩,
  ⟨some 32, none, .mv false (.t 31)⟩,
  ⟨some 33, some (32, false), .mv false (.t 1)⟩,
  ⟨some 34, some (32, false), .mv false (.t 6)⟩,
  ⟨some 35, some (32, false), .indexAddr 1 (.t 33) (.t 34)⟩,
  ⟨some 36, some (32, false), .load false false 1 (.t 35)⟩,
  ⟨some 37, some (32, false), .fieldAddr 1 (.t 7)⟩,
  ⟨some 38, some (32, false), .load false false 1 (.t 37)⟩,
  ⟨some 39, some (32, false), .bin .sub (.c (.int .i64 2000)) (.t 38)⟩,
  ⟨some 40, some (32, false), .bin .gtr (.t 36) (.t 39)⟩,
  ⟨some 41, none, .pick (.t 32) (.c (.bool true)) (.t 40)⟩]
theorem tools_Right_r7_d : drawC [0, 0, 3, 7, 15, 31, 63, 63, 255, 511, 63, 1087, 3135, 8191, 16383] [
  ⟨some 27, none, .mv false (.t 1)⟩,
  ⟨some 28, none, .mv false (.t 6)⟩,
  ⟨some 29, none, .indexAddr 1 (.t 27) (.t 28)⟩,
  ⟨some 30, none, .load false false 1 (.t 29)⟩,
  ⟨some 31, none, .bin .lss (.t 30) (.c (.int .i64 0))⟩,
  ⟨some 32, none, .mv false (.t 31)⟩,
  ⟨some 33, some (32, false), .mv false (.t 1)⟩,
  ⟨some 34, some (32, false), .mv false (.t 6)⟩,
  ⟨some 35, some (32, false), .indexAddr 1 (.t 33) (.t 34)⟩,
  ⟨some 36, some (32, false), .load false false 1 (.t 35)⟩,
  ⟨some 37, some (32, false), .fieldAddr 1 (.t 7)⟩,
  ⟨some 38, some (32, false), .load false false 1 (.t 37)⟩,
  ⟨some 39, some (32, false), .bin .sub (.c (.int .i64 2000)) (.t 38)⟩,
  ⟨some 40, some (32, false), .bin .gtr (.t 36) (.t 39)⟩,
  ⟨some 41, none, .pick (.t 32) (.c (.bool true)) (.t 40)⟩] = true := by kernel_rfl
def tools_Right_r8 : List LOper := [
  ⟨some 4, none, .mv false (.c (.bool false))⟩]
def tools_Right_r9 : List LOper := [
  ⟨some 42, none, .fieldAddr 2 (.t 7)⟩,
  ⟨some 43, none, .load false false 1 (.t 42)⟩,
  ⟨some 44, none, .lenL (.t 43)⟩,
  ⟨some 45, none, .mv false (.c (.int .i64 0))⟩]
def tools_Right_r10 : List LOper := [
  ⟨some 46, none, .bin .lss (.t 45) (.t 44)⟩]
def tools_Right_r11 : List LOper := [
  ⟨some 47, none, .indexAddr 1 (.t 43) (.t 45)⟩,
  ⟨some 48, none, .load false false 1 (.t 47)⟩,
  ⟨some 9, none, .mv false (.t 48)⟩]
def tools_Right_r12 : List LOper := [
  ⟨some 49, none, .mv false (.t 1)⟩,
  ⟨some 50, none, .mv false (.t 6)⟩,
  ⟨some 51, none, .indexAddr 1 (.t 49) (.t 50)⟩,
  ⟨some 52, none, .load false false 1 (.t 51)⟩,
  ⟨some 53, none, .mv false (.t 1)⟩,
  ⟨some 54, none, .mv false (.t 9)⟩,
  ⟨some 55, none, .indexAddr 1 (.t 53) (.t 54)⟩,
  ⟨some 56, none, .load false false 1 (.t 55)⟩,
  ⟨some 57, none, .mv false (.t 0)⟩,
  ⟨some 58, none, .mv false (.t 9)⟩,
  ⟨some 59, none, .indexAddr 3 (.t 57) (.t 58)⟩,
  ⟨some 60, none, .fieldAddr 1 (.t 59)⟩,
  ⟨some 61, none, .load false false 1 (.t 60)⟩,
  ⟨some 62, none, .bin .add (.t 56) (.t 61)⟩,
  ⟨some 63, none, .bin .lss (.t 52) (.t 62)⟩]
theorem tools_Right_r12_d : drawC [0, 0, 3, 7, 0, 0, 48, 112, 0, 0, 768, 1792, 3840, 8176, 16383] [
  ⟨some 49, none, .mv false (.t 1)⟩,
  ⟨some 50, none, .mv false (.t 6)⟩,
  ⟨some 51, none, .indexAddr 1 (.t 49) (.t 50)⟩,
  ⟨some 52, none, .load false false 1 (.t 51)⟩,
  ⟨some 53, none, .mv false (.t 1)⟩,
  ⟨some 54, none, .mv false (.t 9)⟩,
  ⟨some 55, none, .indexAddr 1 (.t 53) (.t 54)⟩,
  ⟨some 56, none, .load false false 1 (.t 55)⟩,
  ⟨some 57, none, .mv false (.t 0)⟩,
  ⟨some 58, none, .mv false (.t 9)⟩,
  ⟨some 59, none, .indexAddr 3 (.t 57) (.t 58)⟩,
  ⟨some 60, none, .fieldAddr 1 (.t 59)⟩,
  ⟨some 61, none, .load false false 1 (.t 60)⟩,
  ⟨some 62, none, .bin .add (.t 56) (.t 61)⟩,
  ⟨some 63, none, .bin .lss (.t 52) (.t 62)⟩] = true := by kernel_rfl
def tools_Right_r13 : List LOper := [
  ⟨some 4, none, .mv false (.c (.bool false))⟩]
def tools_Right_r14 : List LOper := [
  ⟨some 64, none, .bin .add (.t 45) (.c (.int .i64 1))⟩,
  ⟨some 45, none, .mv false (.t 64)⟩]
def tools_Right_b1 : LCode := (.seq (.ops tools_Right_r10) (.seq (.cond (.t 46) .skip (.exit 2)) (.seq (.block 3 (.seq (.ops tools_Right_r11) (.seq (.dops [0, 0, 3, 7, 0, 0, 48, 112, 0, 0, 768, 1792, 3840, 8176, 16383] tools_Right_r12) (.cond (.t 63) (.seq (.ops tools_Right_r13) .ret) .skip)))) (.ops tools_Right_r14))))
def tools_Right_r15 : List LOper := [
  ⟨some 65, none, .fieldAddr 0 (.t 7)⟩,
  ⟨some 66, none, .load false false 1 (.t 65)⟩,
  ⟨some 67, none, .bin .geq (.t 66) (.c (.int .i64 0))⟩]
def tools_Right_r16 : List LOper := [
  ⟨some 68, none, .mv true (.t 5)⟩,
  ⟨some 69, none, .fieldAddr 0 (.t 7)⟩,
  ⟨some 70, none, .load false false 1 (.t 69)⟩,
  ⟨some 71, none, .mv false (.t 1)⟩,
  ⟨some 72, none, .mv false (.t 6)⟩,
  ⟨some 73, none, .indexAddr 1 (.t 71) (.t 72)⟩,
  ⟨some 74, none, .load false false 1 (.t 73)⟩,
  ⟨some 75, none, .fieldAddr 1 (.t 7)⟩,
  ⟨some 76, none, .load false false 1 (.t 75)⟩,
  ⟨some 77, none, .build [.int .i64 0, .int .i64 0, .int .i64 0] [(0, 1, (.t 70)), (1, 1, (.t 74)), (2, 1, (.t 76))]⟩,
  ⟨some 78, none, .bslice false 1 3 [.int .i64 0, .int .i64 0, .int .i64 0] [(0, 3, (.t 77))]⟩,
  ⟨some 79, none, .append true 3 24 (.t 68) (.t 78)⟩,
  ⟨some 5, none, .mv true (.t 79)⟩]
theorem tools_Right_r16_d : drawC [0, 0, 2, 0, 0, 24, 56, 0, 128, 510, 1022, 2047, 4095] [
  ⟨some 68, none, .mv true (.t 5)⟩,
  ⟨some 69, none, .fieldAddr 0 (.t 7)⟩,
  ⟨some 70, none, .load false false 1 (.t 69)⟩,
  ⟨some 71, none, .mv false (.t 1)⟩,
  ⟨some 72, none, .mv false (.t 6)⟩,
  ⟨some 73, none, .indexAddr 1 (.t 71) (.t 72)⟩,
  ⟨some 74, none, .load false false 1 (.t 73)⟩,
  ⟨some 75, none, .fieldAddr 1 (.t 7)⟩,
  ⟨some 76, none, .load false false 1 (.t 75)⟩,
  ⟨some 77, none, .build [.int .i64 0, .int .i64 0, .int .i64 0] [(0, 1, (.t 70)), (1, 1, (.t 74)), (2, 1, (.t 76))]⟩,
  ⟨some 78, none, .bslice false 1 3 [.int .i64 0, .int .i64 0, .int .i64 0] [(0, 3, (.t 77))]⟩,
  ⟨some 79, none, .append true 3 24 (.t 68) (.t 78)⟩,
  ⟨some 5, none, .mv true (.t 79)⟩] = true := by kernel_rfl
def tools_Right_r17 : List LOper := [
  ⟨some 80, none, .bin .add (.t 22) (.c (.int .i64 1))⟩,
  ⟨some 22, none, .mv false (.t 80)⟩]
def tools_Right_b0 : LCode := (.seq (.ops tools_Right_r5) (.seq (.cond (.t 23) .skip (.exit 0)) (.seq (.block 1 (.seq (.ops tools_Right_r6) (.seq (.seq (.dops [0, 0, 3, 7, 15, 31, 63, 63, 255, 511, 63, 1087, 3135, 8191, 16383] tools_Right_r7) (.cond (.t 41) (.seq (.ops tools_Right_r8) .ret) .skip)) (.seq (.seq (.ops tools_Right_r9) (.block 2 (.loop [0, 1, 5, 6, 7, 20, 21, 22, 43, 44, 45] tools_Right_b1))) (.seq (.ops tools_Right_r15) (.cond (.t 67) (.dops [0, 0, 2, 0, 0, 24, 56, 0, 128, 510, 1022, 2047, 4095] tools_Right_r16) .skip)))))) (.ops tools_Right_r17))))
def tools_Right_r18 : List LOper := [
  ⟨some 81, none, .mv false (.t 5)⟩,
  ⟨some 82, none, .call false 28 [(.t 81)]⟩,
  ⟨some 83, none, .bin .eql (.t 82) (.c (.int .i64 0))⟩,
  ⟨some 4, none, .mv false (.t 83)⟩]
def tools_Right_f : LFunc := ⟨84, 2, [.tmp 4], (.seq (.ops tools_Right_r0) (.seq (.seq (.ops tools_Right_r1) (.cond (.t 19) (.seq (.ops tools_Right_r2) .ret) .skip)) (.seq (.ops tools_Right_r3) (.seq (.seq (.ops tools_Right_r4) (.block 0 (.loop [0, 1, 5, 20, 21, 22] tools_Right_b0))) (.seq (.ops tools_Right_r18) .ret)))))⟩
def tools_Right_v : VFunc := ⟨tools_Right_f, true, false, false⟩
theorem tools_Right_ok : preFunc Try.prog ⟨[5, 68, 79], [], []⟩ Try.f22 [[0, 1, 5, 20, 21, 22], [0, 1, 5, 6, 7, 20, 21, 22, 43, 44, 45]] = some tools_Right_f := by kernel_rfl

-- slices.Clone[[]gantry/tools.Task,gantry/tools.Task]
def slices_Clone_antrytoolsTask_r0 : List LOper := [
  ⟨some 2, none, .mv true (.c (.nilslice))⟩]
def slices_Clone_antrytoolsTask_r1 : List LOper := [
  ⟨some 3, none, .mv false (.t 0)⟩,
  ⟨some 4, none, .eqv false .slice (.t 3) (.c (.nilslice))⟩]
def slices_Clone_antrytoolsTask_r2 : List LOper := [
  ⟨some 2, none, .mv true (.c (.nilslice))⟩]
def slices_Clone_antrytoolsTask_r3 : List LOper := [
  ⟨some 5, none, .bslice false 0 3 [] []⟩,
  ⟨some 6, none, .mv false (.t 0)⟩,
  ⟨some 7, none, .append true 3 40 (.t 5) (.t 6)⟩,
  ⟨some 2, none, .mv true (.t 7)⟩]
def slices_Clone_antrytoolsTask_f : LFunc := ⟨8, 1, [.tmp 2], (.seq (.ops slices_Clone_antrytoolsTask_r0) (.seq (.seq (.ops slices_Clone_antrytoolsTask_r1) (.cond (.t 4) (.seq (.ops slices_Clone_antrytoolsTask_r2) .ret) .skip)) (.seq (.ops slices_Clone_antrytoolsTask_r3) .ret)))⟩
def slices_Clone_antrytoolsTask_v : VFunc := ⟨(cloneA true false true 3 40), true, true, false⟩
theorem slices_Clone_antrytoolsTask_ok : preFunc Try.prog ⟨[2, 5, 7], [], []⟩ Try.f23 [] = some slices_Clone_antrytoolsTask_f := by kernel_rfl

-- gantry/tools.End
def tools_End_r0 : List LOper := [
  ⟨some 4, none, .mv false (.c (.int .i64 0))⟩,
  ⟨some 5, none, .mv false (.c (.int .i64 0))⟩]
def tools_End_r1 : List LOper := [
  ⟨some 9, none, .mv false (.t 0)⟩,
  ⟨some 10, none, .mv false (.t 1)⟩,
  ⟨some 11, none, .call false 22 [(.t 9), (.t 10)]⟩,
  ⟨some 12, none, .un .not (.t 11)⟩]
def tools_End_r2 : List LOper := [
  ⟨some 4, none, .mv false (.c (.int .i64 0))⟩,
  ⟨some 5, none, .mv false (.c (.int .i64 1))⟩]
def tools_End_r3 : List LOper := [
  ⟨some 6, none, .mv false (.c (.int .i64 0))⟩]
def tools_End_r4 : List LOper := [
  ⟨some 13, none, .mv false (.t 0)⟩,
  ⟨some 14, none, .lenL (.t 13)⟩,
  ⟨some 15, none, .mv false (.c (.int .i64 0))⟩]
def tools_End_r5 : List LOper := [
  ⟨some 16, none, .bin .lss (.t 15) (.t 14)⟩]
def tools_End_r6 : List LOper := [
  ⟨some 17, none, .mv false (.t 15)⟩,
  ⟨some 18, none, .indexAddr 3 (.t 13) (.t 15)⟩,
  ⟨some 19, none, .load false true 3 (.t 18)⟩,
  ⟨some 8, none, .alloc [.int .i64 0, .int .i64 0, .nilslice]⟩,
  ⟨some 7, none, .mv false (.t 17)⟩,
  ⟨none, none, .store 3 (.t 8) (.t 19)⟩]
def tools_End_r7 : List LOper := [
  ⟨some 20, none, .mv false (.t 6)⟩,
  ⟨some 21, none, .mv false (.t 1)⟩,
  ⟨some 22, none, .mv false (.t 7)⟩,
  ⟨some 23, none, .indexAddr 1 (.t 21) (.t 22)⟩,
  ⟨some 24, none, .load false false 1 (.t 23)⟩,
  ⟨some 25, none, .fieldAddr 1 (.t 8)⟩,
  ⟨some 26, none, .load false false 1 (.t 25)⟩,
  ⟨some 27, none, .bin .add (.t 24) (.t 26)⟩,
  ⟨some 28, none, .max2 [(.t 20), (.t 27)]⟩,
  ⟨some 6, none, .mv false (.t 28)⟩]
theorem tools_End_r7_d : drawC [0, 0, 0, 6, 14, 0, 32, 126, 255, 511] [
  ⟨some 20, none, .mv false (.t 6)⟩,
  ⟨some 21, none, .mv false (.t 1)⟩,
  ⟨some 22, none, .mv false (.t 7)⟩,
  ⟨some 23, none, .indexAddr 1 (.t 21) (.t 22)⟩,
  ⟨some 24, none, .load false false 1 (.t 23)⟩,
  ⟨some 25, none, .fieldAddr 1 (.t 8)⟩,
  ⟨some 26, none, .load false false 1 (.t 25)⟩,
  ⟨some 27, none, .bin .add (.t 24) (.t 26)⟩,
  ⟨some 28, none, .max2 [(.t 20), (.t 27)]⟩,
  ⟨some 6, none, .mv false (.t 28)⟩] = true := by kernel_rfl
def tools_End_r8 : List LOper := [
  ⟨some 29, none, .bin .add (.t 15) (.c (.int .i64 1))⟩,
  ⟨some 15, none, .mv false (.t 29)⟩]
def tools_End_b0 : LCode := (.seq (.ops tools_End_r5) (.seq (.cond (.t 16) .skip (.exit 0)) (.seq (.block 1 (.seq (.ops tools_End_r6) (.dops [0, 0, 0, 6, 14, 0, 32, 126, 255, 511] tools_End_r7))) (.ops tools_End_r8))))
def tools_End_r9 : List LOper := [
  ⟨some 30, none, .mv false (.t 6)⟩,
  ⟨some 4, none, .mv false (.t 30)⟩,
  ⟨some 5, none, .mv false (.c (.int .i64 0))⟩]
def tools_End_f : LFunc := ⟨31, 2, [.tmp 4, .tmp 5], (.seq (.ops tools_End_r0) (.seq (.seq (.ops tools_End_r1) (.cond (.t 12) (.seq (.ops tools_End_r2) .ret) .skip)) (.seq (.ops tools_End_r3) (.seq (.seq (.ops tools_End_r4) (.block 0 (.loop [1, 6, 13, 14, 15] tools_End_b0))) (.seq (.ops tools_End_r9) .ret)))))⟩
def tools_End_v : VFunc := ⟨tools_End_f, true, false, false⟩
theorem tools_End_ok : preFunc Try.prog ⟨[], [], []⟩ Try.f24 [[1, 6, 13, 14, 15]] = some tools_End_f := by kernel_rfl

-- slices.Equal[[]int,int]
def slices_Equal_intint_r0 : List LOper := [
  ⟨some 4, none, .mv false (.c (.bool false))⟩]
def slices_Equal_intint_r1 : List LOper := [
  ⟨some 6, none, .mv false (.t 0)⟩,
  ⟨some 7, none, .lenL (.t 6)⟩,
  ⟨some 8, none, .mv false (.t 1)⟩,
  ⟨some 9, none, .lenL (.t 8)⟩,
  ⟨some 10, none, .bin .neq (.t 7) (.t 9)⟩]
def slices_Equal_intint_r2 : List LOper := [
  ⟨some 4, none, .mv false (.c (.bool false))⟩]
def slices_Equal_intint_r3 : List LOper := [
  ⟨some 11, none, .mv false (.t 0)⟩,
  ⟨some 12, none, .lenL (.t 11)⟩,
  ⟨some 13, none, .mv false (.c (.int .i64 0))⟩]
def slices_Equal_intint_r4 : List LOper := [
  ⟨some 14, none, .bin .lss (.t 13) (.t 12)⟩]
def slices_Equal_intint_r5 : List LOper := [
  ⟨some 15, none, .mv false (.t 13)⟩,
  ⟨some 5, none, .mv false (.t 15)⟩]
def slices_Equal_intint_r6 : List LOper := [
  ⟨some 16, none, .mv false (.t 0)⟩,
  ⟨some 17, none, .mv false (.t 5)⟩,
  ⟨some 18, none, .indexAddr 1 (.t 16) (.t 17)⟩,
  ⟨some 19, none, .load false false 1 (.t 18)⟩,
  ⟨some 20, none, .mv false (.t 1)⟩,
  ⟨some 21, none, .mv false (.t 5)⟩,
  ⟨some 22, none, .indexAddr 1 (.t 20) (.t 21)⟩,
  ⟨some 23, none, .load false false 1 (.t 22)⟩,
  ⟨some 24, none, .bin .neq (.t 19) (.t 23)⟩]
theorem slices_Equal_intint_r6_d : drawC [0, 0, 3, 7, 0, 0, 48, 112, 255] [
  ⟨some 16, none, .mv false (.t 0)⟩,
  ⟨some 17, none, .mv false (.t 5)⟩,
  ⟨some 18, none, .indexAddr 1 (.t 16) (.t 17)⟩,
  ⟨some 19, none, .load false false 1 (.t 18)⟩,
  ⟨some 20, none, .mv false (.t 1)⟩,
  ⟨some 21, none, .mv false (.t 5)⟩,
  ⟨some 22, none, .indexAddr 1 (.t 20) (.t 21)⟩,
  ⟨some 23, none, .load false false 1 (.t 22)⟩,
  ⟨some 24, none, .bin .neq (.t 19) (.t 23)⟩] = true := by kernel_rfl
def slices_Equal_intint_r7 : List LOper := [
  ⟨some 4, none, .mv false (.c (.bool false))⟩]
def slices_Equal_intint_r8 : List LOper := [
  ⟨some 25, none, .bin .add (.t 13) (.c (.int .i64 1))⟩,
  ⟨some 13, none, .mv false (.t 25)⟩]
def slices_Equal_intint_b0 : LCode := (.seq (.ops slices_Equal_intint_r4) (.seq (.cond (.t 14) .skip (.exit 0)) (.seq (.block 1 (.seq (.ops slices_Equal_intint_r5) (.seq (.dops [0, 0, 3, 7, 0, 0, 48, 112, 255] slices_Equal_intint_r6) (.cond (.t 24) (.seq (.ops slices_Equal_intint_r7) .ret) .skip)))) (.ops slices_Equal_intint_r8))))
def slices_Equal_intint_r9 : List LOper := [
  ⟨some 4, none, .mv false (.c (.bool true))⟩]
def slices_Equal_intint_f : LFunc := ⟨26, 2, [.tmp 4], (.seq (.ops slices_Equal_intint_r0) (.seq (.seq (.ops slices_Equal_intint_r1) (.cond (.t 10) (.seq (.ops slices_Equal_intint_r2) .ret) .skip)) (.seq (.seq (.ops slices_Equal_intint_r3) (.block 0 (.loop [0, 1, 12, 13] slices_Equal_intint_b0))) (.seq (.ops slices_Equal_intint_r9) .ret))))⟩
def slices_Equal_intint_v : VFunc := ⟨slices_Equal_intint_f, true, false, false⟩
theorem slices_Equal_intint_ok : preFunc Try.prog ⟨[], [], []⟩ Try.f25 [[0, 1, 12, 13]] = some slices_Equal_intint_f := by kernel_rfl

-- gantry/order.long
def order_long_r0 : List LOper := [
  ⟨some 4, none, .mv false (.c (.int .i64 0))⟩]
def order_long_r1 : List LOper := [
  ⟨some 8, none, .mv false (.t 0)⟩,
  ⟨some 9, none, .call false 32 [(.t 8)]⟩,
  ⟨some 5, none, .mv false (.t 9)⟩]
def order_long_r2 : List LOper := [
  ⟨some 10, none, .mv false (.t 5)⟩,
  ⟨some 11, none, .bin .neq (.t 10) (.c (.int .i64 0))⟩]
def order_long_r3 : List LOper := [
  ⟨some 12, none, .mv false (.t 5)⟩,
  ⟨some 4, none, .mv false (.t 12)⟩]
def order_long_r4 : List LOper := [
  ⟨some 13, none, .mv false (.t 1)⟩,
  ⟨some 14, none, .lenL (.t 13)⟩,
  ⟨some 15, none, .mv false (.t 0)⟩,
  ⟨some 16, none, .lenL (.t 15)⟩,
  ⟨some 17, none, .bin .neq (.t 14) (.t 16)⟩]
def order_long_r5 : List LOper := [
  ⟨some 4, none, .mv false (.c (.int .i64 3))⟩]
def order_long_r6 : List LOper := [
  ⟨some 18, none, .mv false (.t 1)⟩,
  ⟨some 19, none, .lenL (.t 18)⟩,
  ⟨some 20, none, .mv false (.c (.int .i64 0))⟩]
def order_long_r7 : List LOper := [
  ⟨some 21, none, .bin .lss (.t 20) (.t 19)⟩]
def order_long_r8 : List LOper := [
  ⟨some 22, none, .indexAddr 1 (.t 18) (.t 20)⟩,
  ⟨some 23, none, .load false false 1 (.t 22)⟩,
  ⟨some 7, none, .mv false (.t 23)⟩]
def order_long_r9 : List LOper := [
  ⟨some 24, none, .mv false (.t 7)⟩,
  ⟨some 25, none, .bin .lss (.t 24) (.c (.int .i64 0))⟩,
  ⟨some 26, none, .mv false (.t 25)⟩,
  ⟨some 27, some (26, false), .mv false (.t 7)⟩,
  ⟨some 28, some (26, false), .bin .gtr (.t 27) (.c (.int .i64 2000))⟩,
  ⟨some 29, none, .pick (.t 26) (.c (.bool true)) (.t 28)⟩]
def order_long_r10 : List LOper := [
  ⟨some 4, none, .mv false (.c (.int .i64 1))⟩]
def order_long_r11 : List LOper := [
  ⟨some 30, none, .bin .add (.t 20) (.c (.int .i64 1))⟩,
  ⟨some 20, none, .mv false (.t 30)⟩]
def order_long_b0 : LCode := (.seq (.ops order_long_r7) (.seq (.cond (.t 21) .skip (.exit 0)) (.seq (.block 1 (.seq (.ops order_long_r8) (.seq (.ops order_long_r9) (.cond (.t 29) (.seq (.ops order_long_r10) .ret) .skip)))) (.ops order_long_r11))))
def order_long_r12 : List LOper := [
  ⟨some 4, none, .mv false (.c (.int .i64 0))⟩]
def order_long_f : LFunc := ⟨31, 2, [.tmp 4], (.seq (.ops order_long_r0) (.seq (.seq (.ops order_long_r1) (.seq (.ops order_long_r2) (.cond (.t 11) (.seq (.ops order_long_r3) .ret) .skip))) (.seq (.seq (.ops order_long_r4) (.cond (.t 17) (.seq (.ops order_long_r5) .ret) .skip)) (.seq (.seq (.ops order_long_r6) (.block 0 (.loop [18, 19, 20] order_long_b0))) (.seq (.ops order_long_r12) .ret)))))⟩
def order_long_v : VFunc := ⟨order_long_f, true, false, false⟩
theorem order_long_ok : preFunc Try.prog ⟨[], [], []⟩ Try.f26 [[18, 19, 20]] = some order_long_f := by kernel_rfl

-- gantry/order.Right
def order_Right_r0 : List LOper := [
  ⟨some 4, none, .mv false (.c (.bool false))⟩]
def order_Right_r1 : List LOper := [
  ⟨some 10, none, .mv false (.t 0)⟩,
  ⟨some 11, none, .call false 32 [(.t 10)]⟩,
  ⟨some 12, none, .bin .neq (.t 11) (.c (.int .i64 0))⟩,
  ⟨some 13, none, .mv false (.t 12)⟩,
  ⟨some 14, some (13, false), .mv false (.t 1)⟩,
  ⟨some 15, some (13, false), .lenL (.t 14)⟩,
  ⟨some 16, some (13, false), .mv false (.t 0)⟩,
  ⟨some 17, some (13, false), .lenL (.t 16)⟩,
  ⟨some 18, some (13, false), .bin .neq (.t 15) (.t 17)⟩,
  ⟨some 19, none, .pick (.t 13) (.c (.bool true)) (.t 18)⟩]
def order_Right_r2 : List LOper := [
  ⟨some 4, none, .mv false (.c (.bool false))⟩]
def order_Right_r3 : List LOper := [
  ⟨some 5, none, .mv true (.c (.nilslice))⟩]
def order_Right_r4 : List LOper := [
  ⟨some 20, none, .mv false (.t 1)⟩,
  ⟨some 21, none, .lenL (.t 20)⟩,
  ⟨some 22, none, .mv false (.c (.int .i64 0))⟩]
def order_Right_r5 : List LOper := [
  ⟨some 23, none, .bin .lss (.t 22) (.t 21)⟩]
def order_Right_r6 : List LOper := [
  ⟨some 24, none, .indexAddr 1 (.t 20) (.t 22)⟩,
  ⟨some 25, none, .load false false 1 (.t 24)⟩,
  ⟨some 7, none, .mv false (.t 25)⟩]
def order_Right_r7 : List LOper := [
  ⟨some 26, none, .mv false (.t 7)⟩,
  ⟨some 27, none, .bin .lss (.t 26) (.c (.int .i64 0))⟩,
  ⟨some 28, none, .mv false (.t 27)⟩,
  ⟨some 29, some (28, false), .mv false (.t 7)⟩,
  ⟨some 30, some (28, false), .mv false (.t 0)⟩,
  ⟨some 31, some (28, false), .lenL (.t 30)⟩,
  ⟨some 32, some (28, false), .bin .geq (.t 29) (.t 31)⟩,
  ⟨some 33, none, .pick (.t 28) (.c (.bool true)) (.t 32)⟩,
  ⟨some 34, none, .mv false (.t 33)⟩,
  ⟨some 35, some (34, false), .mv false (.t 5)⟩,
  ⟨some 36, some (34, false), .mv false (.t 7)⟩,
  ⟨some 37, some (34, false), .call false 33 [(.t 35), (.t 36)]⟩,
  ⟨some 38, none, .pick (.t 34) (.c (.bool true)) (.t 37)⟩]
def order_Right_r8 : List LOper := [
  ⟨some 4, none, .mv false (.c (.bool false))⟩]
def order_Right_r9 : List LOper := [
  ⟨some 39, none, .mv false (.t 0)⟩,
  ⟨some 40, none, .mv false (.t 7)⟩,
  ⟨some 41, none, .indexAddr 1 (.t 39) (.t 40)⟩,
  ⟨some 42, none, .load false false 1 (.t 41)⟩,
  ⟨some 43, none, .lenL (.t 42)⟩,
  ⟨some 44, none, .mv false (.c (.int .i64 0))⟩]
def order_Right_r10 : List LOper := [
  ⟨some 45, none, .bin .lss (.t 44) (.t 43)⟩]
def order_Right_r11 : List LOper := [
  ⟨some 46, none, .indexAddr 1 (.t 42) (.t 44)⟩,
  ⟨some 47, none, .load false false 1 (.t 46)⟩,
  ⟨some 9, none, .mv false (.t 47)⟩]
def order_Right_r12 : List LOper := [
  ⟨some 48, none, .mv false (.t 5)⟩,
  ⟨some 49, none, .mv false (.t 9)⟩,
  ⟨some 50, none, .call false 33 [(.t 48), (.t 49)]⟩,
  ⟨some 51, none, .un .not (.t 50)⟩]
def order_Right_r13 : List LOper := [
  ⟨some 4, none, .mv false (.c (.bool false))⟩]
def order_Right_r14 : List LOper := [
  ⟨some 52, none, .bin .add (.t 44) (.c (.int .i64 1))⟩,
  ⟨some 44, none, .mv false (.t 52)⟩]
def order_Right_b1 : LCode := (.seq (.ops order_Right_r10) (.seq (.cond (.t 45) .skip (.exit 2)) (.seq (.block 3 (.seq (.ops order_Right_r11) (.seq (.ops order_Right_r12) (.cond (.t 51) (.seq (.ops order_Right_r13) .ret) .skip)))) (.ops order_Right_r14))))
def order_Right_r15 : List LOper := [
  ⟨some 53, none, .mv true (.t 5)⟩,
  ⟨some 54, none, .mv false (.t 7)⟩,
  ⟨some 55, none, .bslice false 1 1 [.int .i64 0] [(0, 1, (.t 54))]⟩,
  ⟨some 56, none, .append true 1 8 (.t 53) (.t 55)⟩,
  ⟨some 5, none, .mv true (.t 56)⟩]
def order_Right_r16 : List LOper := [
  ⟨some 57, none, .bin .add (.t 22) (.c (.int .i64 1))⟩,
  ⟨some 22, none, .mv false (.t 57)⟩]
def order_Right_b0 : LCode := (.seq (.ops order_Right_r5) (.seq (.cond (.t 23) .skip (.exit 0)) (.seq (.block 1 (.seq (.ops order_Right_r6) (.seq (.seq (.ops order_Right_r7) (.cond (.t 38) (.seq (.ops order_Right_r8) .ret) .skip)) (.seq (.seq (.ops order_Right_r9) (.block 2 (.loop [0, 5, 7, 20, 21, 22, 42, 43, 44] order_Right_b1))) (.ops order_Right_r15))))) (.ops order_Right_r16))))
def order_Right_r17 : List LOper := [
  ⟨some 4, none, .mv false (.c (.bool true))⟩]
def order_Right_f : LFunc := ⟨58, 2, [.tmp 4], (.seq (.ops order_Right_r0) (.seq (.seq (.ops order_Right_r1) (.cond (.t 19) (.seq (.ops order_Right_r2) .ret) .skip)) (.seq (.ops order_Right_r3) (.seq (.seq (.ops order_Right_r4) (.block 0 (.loop [0, 5, 20, 21, 22] order_Right_b0))) (.seq (.ops order_Right_r17) .ret)))))⟩
def order_Right_v : VFunc := ⟨order_Right_f, true, false, false⟩
theorem order_Right_ok : preFunc Try.prog ⟨[5, 53, 56], [], []⟩ Try.f27 [[0, 5, 20, 21, 22], [0, 5, 7, 20, 21, 22, 42, 43, 44]] = some order_Right_f := by kernel_rfl

-- gantry/tools.Check
def tools_Check_r0 : List LOper := [
  ⟨some 2, none, .mv false (.c (.int .i64 0))⟩]
def tools_Check_r1 : List LOper := [
  ⟨some 7, none, .mv false (.t 0)⟩,
  ⟨some 8, none, .lenL (.t 7)⟩,
  ⟨some 9, none, .bin .gtr (.t 8) (.c (.int .i64 60))⟩]
def tools_Check_r2 : List LOper := [
  ⟨some 2, none, .mv false (.c (.int .i64 2))⟩]
def tools_Check_r3 : List LOper := [
  ⟨some 10, none, .mv false (.t 0)⟩,
  ⟨some 11, none, .lenL (.t 10)⟩,
  ⟨some 12, none, .mv false (.c (.int .i64 0))⟩]
def tools_Check_r4 : List LOper := [
  ⟨some 13, none, .bin .lss (.t 12) (.t 11)⟩]
def tools_Check_r5 : List LOper := [
  ⟨some 14, none, .mv false (.t 12)⟩,
  ⟨some 15, none, .indexAddr 3 (.t 10) (.t 12)⟩,
  ⟨some 16, none, .load false true 3 (.t 15)⟩,
  ⟨some 4, none, .alloc [.int .i64 0, .int .i64 0, .int .i64 0]⟩,
  ⟨some 3, none, .mv false (.t 14)⟩,
  ⟨none, none, .store 3 (.t 4) (.t 16)⟩]
def tools_Check_r6 : List LOper := [
  ⟨some 17, none, .load false true 3 (.t 4)⟩,
  ⟨some 18, none, .call false 29 [(.t 17)]⟩,
  ⟨some 19, none, .un .not (.t 18)⟩]
def tools_Check_r7 : List LOper := [
  ⟨some 2, none, .mv false (.c (.int .i64 1))⟩]
def tools_Check_r8 : List LOper := [
  ⟨some 20, none, .mv false (.t 0)⟩,
  ⟨some 21, none, .mv false (.t 3)⟩,
  ⟨some 22, none, .slc 3 (.t 20) none (some (.t 21)) none⟩,
  ⟨some 23, none, .lenL (.t 22)⟩,
  ⟨some 24, none, .mv false (.c (.int .i64 0))⟩]
def tools_Check_r9 : List LOper := [
  ⟨some 25, none, .bin .lss (.t 24) (.t 23)⟩]
def tools_Check_r10 : List LOper := [
  ⟨some 26, none, .indexAddr 3 (.t 22) (.t 24)⟩,
  ⟨some 27, none, .load false true 3 (.t 26)⟩,
  ⟨some 6, none, .alloc [.int .i64 0, .int .i64 0, .int .i64 0]⟩,
  ⟨none, none, .store 3 (.t 6) (.t 27)⟩]
def tools_Check_r11 : List LOper := [
  ⟨some 28, none, .load false true 3 (.t 4)⟩,
  ⟨some 29, none, .load false true 3 (.t 6)⟩,
  ⟨some 30, none, .call false 30 [(.t 28), (.t 29)]⟩]
def tools_Check_r12 : List LOper := [
  ⟨some 2, none, .mv false (.c (.int .i64 10))⟩]
def tools_Check_r13 : List LOper := [
  ⟨some 31, none, .bin .add (.t 24) (.c (.int .i64 1))⟩,
  ⟨some 24, none, .mv false (.t 31)⟩]
def tools_Check_b1 : LCode := (.seq (.ops tools_Check_r9) (.seq (.cond (.t 25) .skip (.exit 2)) (.seq (.block 3 (.seq (.ops tools_Check_r10) (.seq (.ops tools_Check_r11) (.cond (.t 30) (.seq (.ops tools_Check_r12) .ret) .skip)))) (.ops tools_Check_r13))))
def tools_Check_r14 : List LOper := [
  ⟨some 32, none, .bin .add (.t 12) (.c (.int .i64 1))⟩,
  ⟨some 12, none, .mv false (.t 32)⟩]
def tools_Check_b0 : LCode := (.seq (.ops tools_Check_r4) (.seq (.cond (.t 13) .skip (.exit 0)) (.seq (.block 1 (.seq (.ops tools_Check_r5) (.seq (.seq (.ops tools_Check_r6) (.cond (.t 19) (.seq (.ops tools_Check_r7) .ret) .skip)) (.seq (.ops tools_Check_r8) (.block 2 (.loop [0, 4, 10, 11, 12, 22, 23, 24] tools_Check_b1)))))) (.ops tools_Check_r14))))
def tools_Check_r15 : List LOper := [
  ⟨some 2, none, .mv false (.c (.int .i64 0))⟩]
def tools_Check_f : LFunc := ⟨33, 1, [.tmp 2], (.seq (.ops tools_Check_r0) (.seq (.seq (.ops tools_Check_r1) (.cond (.t 9) (.seq (.ops tools_Check_r2) .ret) .skip)) (.seq (.seq (.ops tools_Check_r3) (.block 0 (.loop [0, 10, 11, 12] tools_Check_b0))) (.seq (.ops tools_Check_r15) .ret))))⟩
def tools_Check_v : VFunc := ⟨tools_Check_f, true, false, false⟩
theorem tools_Check_ok : preFunc Try.prog ⟨[], [], []⟩ Try.f28 [[0, 10, 11, 12], [0, 4, 10, 11, 12, 22, 23, 24]] = some tools_Check_f := by kernel_rfl

-- gantry/tools.Valid
def tools_Valid_r0 : List LOper := [
  ⟨some 1, none, .box (.t 0)⟩,
  ⟨some 2, none, .mv false (.c (.bool false))⟩]
def tools_Valid_r1 : List LOper := [
  ⟨some 3, none, .fieldAddr 0 (.t 1)⟩,
  ⟨some 4, none, .load false false 1 (.t 3)⟩,
  ⟨some 5, none, .bin .geq (.t 4) (.c (.int .i64 0))⟩,
  ⟨some 6, none, .mv false (.t 5)⟩,
  ⟨some 7, some (6, true), .fieldAddr 0 (.t 1)⟩,
  ⟨some 8, some (6, true), .load false false 1 (.t 7)⟩,
  ⟨some 9, some (6, true), .bin .lss (.t 8) (.c (.int .i64 6))⟩,
  ⟨some 10, none, .pick (.t 6) (.t 9) (.c (.bool false))⟩,
  ⟨some 11, none, .mv false (.t 10)⟩,
  ⟨some 12, some (11, true), .fieldAddr 1 (.t 1)⟩,
  ⟨some 13, some (11, true), .load false false 1 (.t 12)⟩,
  ⟨some 14, some (11, true), .bin .geq (.t 13) (.c (.int .i64 0))⟩,
  ⟨some 15, none, .pick (.t 11) (.t 14) (.c (.bool false))⟩,
  ⟨some 16, none, .mv false (.t 15)⟩,
  ⟨some 17, some (16, true), .fieldAddr 2 (.t 1)⟩,
  ⟨some 18, some (16, true), .load false false 1 (.t 17)⟩,
  ⟨some 19, some (16, true), .bin .geq (.t 18) (.c (.int .i64 1))⟩,
  ⟨some 20, none, .pick (.t 16) (.t 19) (.c (.bool false))⟩,
  ⟨some 21, none, .mv false (.t 20)⟩,
  ⟨some 22, some (21, true), .fieldAddr 2 (.t 1)⟩,
  ⟨some 23, some (21, true), .load false false 1 (.t 22)⟩,
  ⟨some 24, some (21, true), .bin .leq (.t 23) (.c (.int .i64 2000))⟩,
  ⟨some 25, none, .pick (.t 21) (.t 24) (.c (.bool false))⟩,
  ⟨some 26, none, .mv false (.t 25)⟩,
  ⟨some 27, some (26, true), .fieldAddr 1 (.t 1)⟩,
  ⟨some 28, some (26, true), .load false false 1 (.t 27)⟩,
  ⟨some 29, some (26, true), .fieldAddr 2 (.t 1)⟩,
  ⟨some 30, some (26, true), .load false false 1 (.t 29)⟩,
  ⟨some 31, some (26, true), .bin .sub (.c (.int .i64 2000)) (.t 30)⟩,
  ⟨some 32, some (26, true), .bin .leq (.t 28) (.t 31)⟩,
  ⟨some 33, none, .pick (.t 26) (.t 32) (.c (.bool false))⟩,
  ⟨some 2, none, .mv false (.t 33)⟩]
def tools_Valid_f : LFunc := ⟨34, 1, [.tmp 2], (.seq (.ops tools_Valid_r0) (.seq (.ops tools_Valid_r1) .ret))⟩
def tools_Valid_v : VFunc := ⟨tools_Valid_f, true, false, false⟩
theorem tools_Valid_ok : preFunc Try.prog ⟨[], [], []⟩ Try.f29 [] = some tools_Valid_f := by kernel_rfl

-- gantry/tools.Clash
def tools_Clash_r0 : List LOper := [
  ⟨some 2, none, .box (.t 0)⟩,
  ⟨some 3, none, .box (.t 1)⟩,
  ⟨some 4, none, .mv false (.c (.bool false))⟩]
def tools_Clash_r1 : List LOper := [
  ⟨some 5, none, .load false true 3 (.t 2)⟩,
  ⟨some 6, none, .call false 29 [(.t 5)]⟩,
  ⟨some 7, none, .mv false (.t 6)⟩,
  ⟨some 8, some (7, true), .load false true 3 (.t 3)⟩,
  ⟨some 9, some (7, true), .call false 29 [(.t 8)]⟩,
  ⟨some 10, none, .pick (.t 7) (.t 9) (.c (.bool false))⟩,
  ⟨some 11, none, .mv false (.t 10)⟩,
  ⟨some 12, some (11, true), .fieldAddr 0 (.t 2)⟩,
  ⟨some 13, some (11, true), .load false false 1 (.t 12)⟩,
  ⟨some 14, some (11, true), .fieldAddr 0 (.t 3)⟩,
  ⟨some 15, some (11, true), .load false false 1 (.t 14)⟩,
  ⟨some 16, some (11, true), .bin .eql (.t 13) (.t 15)⟩,
  ⟨some 17, none, .pick (.t 11) (.t 16) (.c (.bool false))⟩,
  ⟨some 18, none, .mv false (.t 17)⟩,
  ⟨some 19, some (18, true), .fieldAddr 1 (.t 2)⟩,
  ⟨some 20, some (18, true), .load false false 1 (.t 19)⟩,
  ⟨some 21, some (18, true), .fieldAddr 1 (.t 3)⟩,
  ⟨some 22, some (18, true), .load false false 1 (.t 21)⟩,
  ⟨some 23, some (18, true), .fieldAddr 2 (.t 3)⟩,
  ⟨some 24, some (18, true), .load false false 1 (.t 23)⟩,
  ⟨some 25, some (18, true), .bin .add (.t 22) (.t 24)⟩,
  ⟨some 26, some (18, true), .bin .lss (.t 20) (.t 25)⟩,
  ⟨some 27, none, .pick (.t 18) (.t 26) (.c (.bool false))⟩,
  ⟨some 28, none, .mv false (.t 27)⟩,
  ⟨some 29, some (28, true), .fieldAddr 1 (.t 3)⟩,
  ⟨some 30, some (28, true), .load false false 1 (.t 29)⟩,
  ⟨some 31, some (28, true), .fieldAddr 1 (.t 2)⟩,
  ⟨some 32, some (28, true), .load false false 1 (.t 31)⟩,
  ⟨some 33, some (28, true), .fieldAddr 2 (.t 2)⟩,
  ⟨some 34, some (28, true), .load false false 1 (.t 33)⟩,
  ⟨some 35, some (28, true), .bin .add (.t 32) (.t 34)⟩,
  ⟨some 36, some (28, true), .bin .lss (.t 30) (.t 35)⟩,
  ⟨some 37, none, .pick (.t 28) (.t 36) (.c (.bool false))⟩,
  ⟨some 4, none, .mv false (.t 37)⟩]
def tools_Clash_f : LFunc := ⟨38, 2, [.tmp 4], (.seq (.ops tools_Clash_r0) (.seq (.ops tools_Clash_r1) .ret))⟩
def tools_Clash_v : VFunc := ⟨tools_Clash_f, true, false, false⟩
theorem tools_Clash_ok : preFunc Try.prog ⟨[], [], []⟩ Try.f30 [] = some tools_Clash_f := by kernel_rfl

-- gantry/tools.tasks
def tools_tasks_r0 : List LOper := [
  ⟨some 2, none, .mv false (.c (.int .i64 0))⟩]
def tools_tasks_r1 : List LOper := [
  ⟨some 7, none, .mv false (.t 0)⟩,
  ⟨some 8, none, .lenL (.t 7)⟩,
  ⟨some 9, none, .bin .gtr (.t 8) (.c (.int .i64 60))⟩]
def tools_tasks_r2 : List LOper := [
  ⟨some 2, none, .mv false (.c (.int .i64 2))⟩]
def tools_tasks_r3 : List LOper := [
  ⟨some 10, none, .mv false (.t 0)⟩,
  ⟨some 11, none, .lenL (.t 10)⟩,
  ⟨some 12, none, .mv false (.c (.int .i64 0))⟩]
def tools_tasks_r4 : List LOper := [
  ⟨some 13, none, .bin .lss (.t 12) (.t 11)⟩]
def tools_tasks_r5 : List LOper := [
  ⟨some 14, none, .mv false (.t 12)⟩,
  ⟨some 15, none, .indexAddr 3 (.t 10) (.t 12)⟩,
  ⟨some 16, none, .load false true 3 (.t 15)⟩,
  ⟨some 4, none, .alloc [.int .i64 0, .int .i64 0, .nilslice]⟩,
  ⟨some 3, none, .mv false (.t 14)⟩,
  ⟨none, none, .store 3 (.t 4) (.t 16)⟩]
def tools_tasks_r6 : List LOper := [
  ⟨some 17, none, .fieldAddr 0 (.t 4)⟩,
  ⟨some 18, none, .load false false 1 (.t 17)⟩,
  ⟨some 19, none, .bin .lss (.t 18) (.c (.int .i64 (-1)))⟩,
  ⟨some 20, none, .mv false (.t 19)⟩,
  ⟨some 21, some (20, false), .fieldAddr 0 (.t 4)⟩,
  ⟨some 22, some (20, false), .load false false 1 (.t 21)⟩,
  ⟨some 23, some (20, false), .bin .geq (.t 22) (.c (.int .i64 6))⟩,
  ⟨some 24, none, .pick (.t 20) (.c (.bool true)) (.t 23)⟩,
  ⟨some 25, none, .mv false (.t 24)⟩,
  ⟨some 26, some (25, false), .fieldAddr 1 (.t 4)⟩,
  ⟨some 27, some (25, false), .load false false 1 (.t 26)⟩,
  ⟨some 28, some (25, false), .bin .lss (.t 27) (.c (.int .i64 1))⟩,
  ⟨some 29, none, .pick (.t 25) (.c (.bool true)) (.t 28)⟩,
  ⟨some 30, none, .mv false (.t 29)⟩,
  ⟨some 31, some (30, false), .fieldAddr 1 (.t 4)⟩,
  ⟨some 32, some (30, false), .load false false 1 (.t 31)⟩,
  ⟨some 33, some (30, false), .bin .gtr (.t 32) (.c (.int .i64 2000))⟩,
  ⟨some 34, none, .pick (.t 30) (.c (.bool true)) (.t 33)⟩]
def tools_tasks_r7 : List LOper := [
  ⟨some 2, none, .mv false (.c (.int .i64 1))⟩]
def tools_tasks_r8 : List LOper := [
  ⟨some 35, none, .fieldAddr 2 (.t 4)⟩,
  ⟨some 36, none, .load false false 1 (.t 35)⟩,
  ⟨some 37, none, .lenL (.t 36)⟩,
  ⟨some 38, none, .mv false (.c (.int .i64 0))⟩]
def tools_tasks_r9 : List LOper := [
  ⟨some 39, none, .bin .lss (.t 38) (.t 37)⟩]
def tools_tasks_r10 : List LOper := [
  ⟨some 40, none, .indexAddr 1 (.t 36) (.t 38)⟩,
  ⟨some 41, none, .load false false 1 (.t 40)⟩,
  ⟨some 6, none, .mv false (.t 41)⟩]
def tools_tasks_r11 : List LOper := [
  ⟨some 42, none, .mv false (.t 6)⟩,
  ⟨some 43, none, .bin .lss (.t 42) (.c (.int .i64 0))⟩,
  ⟨some 44, none, .mv false (.t 43)⟩,
  ⟨some 45, some (44, false), .mv false (.t 6)⟩,
  ⟨some 46, some (44, false), .mv false (.t 3)⟩,
  ⟨some 47, some (44, false), .bin .geq (.t 45) (.t 46)⟩,
  ⟨some 48, none, .pick (.t 44) (.c (.bool true)) (.t 47)⟩]
def tools_tasks_r12 : List LOper := [
  ⟨some 2, none, .mv false (.c (.int .i64 9))⟩]
def tools_tasks_r13 : List LOper := [
  ⟨some 49, none, .bin .add (.t 38) (.c (.int .i64 1))⟩,
  ⟨some 38, none, .mv false (.t 49)⟩]
def tools_tasks_b1 : LCode := (.seq (.ops tools_tasks_r9) (.seq (.cond (.t 39) .skip (.exit 2)) (.seq (.block 3 (.seq (.ops tools_tasks_r10) (.seq (.ops tools_tasks_r11) (.cond (.t 48) (.seq (.ops tools_tasks_r12) .ret) .skip)))) (.ops tools_tasks_r13))))
def tools_tasks_r14 : List LOper := [
  ⟨some 50, none, .bin .add (.t 12) (.c (.int .i64 1))⟩,
  ⟨some 12, none, .mv false (.t 50)⟩]
def tools_tasks_b0 : LCode := (.seq (.ops tools_tasks_r4) (.seq (.cond (.t 13) .skip (.exit 0)) (.seq (.block 1 (.seq (.ops tools_tasks_r5) (.seq (.seq (.ops tools_tasks_r6) (.cond (.t 34) (.seq (.ops tools_tasks_r7) .ret) .skip)) (.seq (.ops tools_tasks_r8) (.block 2 (.loop [3, 10, 11, 12, 36, 37, 38] tools_tasks_b1)))))) (.ops tools_tasks_r14))))
def tools_tasks_r15 : List LOper := [
  ⟨some 2, none, .mv false (.c (.int .i64 0))⟩]
def tools_tasks_f : LFunc := ⟨51, 1, [.tmp 2], (.seq (.ops tools_tasks_r0) (.seq (.seq (.ops tools_tasks_r1) (.cond (.t 9) (.seq (.ops tools_tasks_r2) .ret) .skip)) (.seq (.seq (.ops tools_tasks_r3) (.block 0 (.loop [10, 11, 12] tools_tasks_b0))) (.seq (.ops tools_tasks_r15) .ret))))⟩
def tools_tasks_v : VFunc := ⟨tools_tasks_f, true, false, false⟩
theorem tools_tasks_ok : preFunc Try.prog ⟨[], [], []⟩ Try.f31 [[10, 11, 12], [3, 10, 11, 12, 36, 37, 38]] = some tools_tasks_f := by kernel_rfl

-- gantry/order.Check
def order_Check_r0 : List LOper := [
  ⟨some 2, none, .mv false (.c (.int .i64 0))⟩]
def order_Check_r1 : List LOper := [
  ⟨some 7, none, .mv false (.t 0)⟩,
  ⟨some 8, none, .lenL (.t 7)⟩,
  ⟨some 9, none, .bin .gtr (.t 8) (.c (.int .i64 40))⟩]
def order_Check_r2 : List LOper := [
  ⟨some 2, none, .mv false (.c (.int .i64 2))⟩]
def order_Check_r3 : List LOper := [
  ⟨some 10, none, .mv false (.t 0)⟩,
  ⟨some 11, none, .lenL (.t 10)⟩,
  ⟨some 12, none, .mv false (.c (.int .i64 0))⟩]
def order_Check_r4 : List LOper := [
  ⟨some 13, none, .bin .lss (.t 12) (.t 11)⟩]
def order_Check_r5 : List LOper := [
  ⟨some 14, none, .mv false (.t 12)⟩,
  ⟨some 15, none, .indexAddr 1 (.t 10) (.t 12)⟩,
  ⟨some 16, none, .load false false 1 (.t 15)⟩,
  ⟨some 3, none, .mv false (.t 14)⟩,
  ⟨some 4, none, .mv false (.t 16)⟩]
def order_Check_r6 : List LOper := [
  ⟨some 17, none, .mv false (.t 4)⟩,
  ⟨some 18, none, .lenL (.t 17)⟩,
  ⟨some 19, none, .mv false (.c (.int .i64 0))⟩]
def order_Check_r7 : List LOper := [
  ⟨some 20, none, .bin .lss (.t 19) (.t 18)⟩]
def order_Check_r8 : List LOper := [
  ⟨some 21, none, .mv false (.t 19)⟩,
  ⟨some 22, none, .indexAddr 1 (.t 17) (.t 19)⟩,
  ⟨some 23, none, .load false false 1 (.t 22)⟩,
  ⟨some 5, none, .mv false (.t 21)⟩,
  ⟨some 6, none, .mv false (.t 23)⟩]
def order_Check_r9 : List LOper := [
  ⟨some 24, none, .mv false (.t 6)⟩,
  ⟨some 25, none, .bin .lss (.t 24) (.c (.int .i64 0))⟩,
  ⟨some 26, none, .mv false (.t 25)⟩,
  ⟨some 27, some (26, false), .mv false (.t 6)⟩,
  ⟨some 28, some (26, false), .mv false (.t 3)⟩,
  ⟨some 29, some (26, false), .bin .geq (.t 27) (.t 28)⟩,
  ⟨some 30, none, .pick (.t 26) (.c (.bool true)) (.t 29)⟩]
def order_Check_r10 : List LOper := [
  ⟨some 2, none, .mv false (.c (.int .i64 1))⟩]
def order_Check_r11 : List LOper := [
  ⟨some 31, none, .mv false (.t 5)⟩,
  ⟨some 32, none, .bin .gtr (.t 31) (.c (.int .i64 0))⟩,
  ⟨some 33, none, .mv false (.t 32)⟩,
  ⟨some 34, some (33, true), .mv false (.t 4)⟩,
  ⟨some 35, some (33, true), .mv false (.t 5)⟩,
  ⟨some 36, some (33, true), .bin .sub (.t 35) (.c (.int .i64 1))⟩,
  ⟨some 37, some (33, true), .indexAddr 1 (.t 34) (.t 36)⟩,
  ⟨some 38, some (33, true), .load false false 1 (.t 37)⟩,
  ⟨some 39, some (33, true), .mv false (.t 6)⟩,
  ⟨some 40, some (33, true), .bin .geq (.t 38) (.t 39)⟩,
  ⟨some 41, none, .pick (.t 33) (.t 40) (.c (.bool false))⟩]
def order_Check_r12 : List LOper := [
  ⟨some 2, none, .mv false (.c (.int .i64 9))⟩]
def order_Check_r13 : List LOper := [
  ⟨some 42, none, .bin .add (.t 19) (.c (.int .i64 1))⟩,
  ⟨some 19, none, .mv false (.t 42)⟩]
def order_Check_b1 : LCode := (.seq (.ops order_Check_r7) (.seq (.cond (.t 20) .skip (.exit 2)) (.seq (.block 3 (.seq (.ops order_Check_r8) (.seq (.seq (.ops order_Check_r9) (.cond (.t 30) (.seq (.ops order_Check_r10) .ret) .skip)) (.seq (.ops order_Check_r11) (.cond (.t 41) (.seq (.ops order_Check_r12) .ret) .skip))))) (.ops order_Check_r13))))
def order_Check_r14 : List LOper := [
  ⟨some 43, none, .bin .add (.t 12) (.c (.int .i64 1))⟩,
  ⟨some 12, none, .mv false (.t 43)⟩]
def order_Check_b0 : LCode := (.seq (.ops order_Check_r4) (.seq (.cond (.t 13) .skip (.exit 0)) (.seq (.block 1 (.seq (.ops order_Check_r5) (.seq (.ops order_Check_r6) (.block 2 (.loop [3, 4, 10, 11, 12, 17, 18, 19] order_Check_b1))))) (.ops order_Check_r14))))
def order_Check_r15 : List LOper := [
  ⟨some 2, none, .mv false (.c (.int .i64 0))⟩]
def order_Check_f : LFunc := ⟨44, 1, [.tmp 2], (.seq (.ops order_Check_r0) (.seq (.seq (.ops order_Check_r1) (.cond (.t 9) (.seq (.ops order_Check_r2) .ret) .skip)) (.seq (.seq (.ops order_Check_r3) (.block 0 (.loop [10, 11, 12] order_Check_b0))) (.seq (.ops order_Check_r15) .ret))))⟩
def order_Check_v : VFunc := ⟨order_Check_f, true, false, false⟩
theorem order_Check_ok : preFunc Try.prog ⟨[], [], []⟩ Try.f32 [[10, 11, 12], [3, 4, 10, 11, 12, 17, 18, 19]] = some order_Check_f := by kernel_rfl

-- slices.Contains[[]int,int]
def slices_Contains_intint_r0 : List LOper := [
  ⟨some 4, none, .mv false (.c (.bool false))⟩]
def slices_Contains_intint_r1 : List LOper := [
  ⟨some 5, none, .mv false (.t 0)⟩,
  ⟨some 6, none, .mv false (.t 1)⟩,
  ⟨some 7, none, .call false 34 [(.t 5), (.t 6)]⟩,
  ⟨some 8, none, .bin .geq (.t 7) (.c (.int .i64 0))⟩,
  ⟨some 4, none, .mv false (.t 8)⟩]
def slices_Contains_intint_f : LFunc := ⟨9, 2, [.tmp 4], (.seq (.ops slices_Contains_intint_r0) (.seq (.ops slices_Contains_intint_r1) .ret))⟩
def slices_Contains_intint_v : VFunc := ⟨slices_Contains_intint_f, true, false, false⟩
theorem slices_Contains_intint_ok : preFunc Try.prog ⟨[], [], []⟩ Try.f33 [] = some slices_Contains_intint_f := by kernel_rfl

-- slices.Index[[]int,int]
def slices_Index_intint_r0 : List LOper := [
  ⟨some 4, none, .mv false (.c (.int .i64 0))⟩]
def slices_Index_intint_r1 : List LOper := [
  ⟨some 6, none, .mv false (.t 0)⟩,
  ⟨some 7, none, .lenL (.t 6)⟩,
  ⟨some 8, none, .mv false (.c (.int .i64 0))⟩]
def slices_Index_intint_r2 : List LOper := [
  ⟨some 9, none, .bin .lss (.t 8) (.t 7)⟩]
def slices_Index_intint_r3 : List LOper := [
  ⟨some 10, none, .mv false (.t 8)⟩,
  ⟨some 5, none, .mv false (.t 10)⟩]
def slices_Index_intint_r4 : List LOper := [
  ⟨some 11, none, .mv false (.t 1)⟩,
  ⟨some 12, none, .mv false (.t 0)⟩,
  ⟨some 13, none, .mv false (.t 5)⟩,
  ⟨some 14, none, .indexAddr 1 (.t 12) (.t 13)⟩,
  ⟨some 15, none, .load false false 1 (.t 14)⟩,
  ⟨some 16, none, .bin .eql (.t 11) (.t 15)⟩]
def slices_Index_intint_r5 : List LOper := [
  ⟨some 17, none, .mv false (.t 5)⟩,
  ⟨some 4, none, .mv false (.t 17)⟩]
def slices_Index_intint_r6 : List LOper := [
  ⟨some 18, none, .bin .add (.t 8) (.c (.int .i64 1))⟩,
  ⟨some 8, none, .mv false (.t 18)⟩]
def slices_Index_intint_b0 : LCode := (.seq (.ops slices_Index_intint_r2) (.seq (.cond (.t 9) .skip (.exit 0)) (.seq (.block 1 (.seq (.ops slices_Index_intint_r3) (.seq (.ops slices_Index_intint_r4) (.cond (.t 16) (.seq (.ops slices_Index_intint_r5) .ret) .skip)))) (.ops slices_Index_intint_r6))))
def slices_Index_intint_r7 : List LOper := [
  ⟨some 4, none, .mv false (.c (.int .i64 (-1)))⟩]
def slices_Index_intint_f : LFunc := ⟨19, 2, [.tmp 4], (.seq (.ops slices_Index_intint_r0) (.seq (.seq (.ops slices_Index_intint_r1) (.block 0 (.loop [0, 1, 7, 8] slices_Index_intint_b0))) (.seq (.ops slices_Index_intint_r7) .ret)))⟩
def slices_Index_intint_v : VFunc := ⟨slices_Index_intint_f, true, false, false⟩
theorem slices_Index_intint_ok : preFunc Try.prog ⟨[], [], []⟩ Try.f34 [[0, 1, 7, 8]] = some slices_Index_intint_f := by kernel_rfl

abbrev n_gantkeep4_OrderTight : Nat := 3
abbrev n_gantkeep4_OrderChain : Nat := 4
abbrev n_gantkeep4_ToolsFirstFree : Nat := 5
abbrev n_gantkeep4_ToolsEarly : Nat := 6
abbrev n_gantkeep4_ToolsNever : Nat := 7
abbrev n_gantkeep4_belongs : Nat := 8
abbrev n_gantmake_Stream_Next : Nat := 9
abbrev n_order_Times : Nat := 10
abbrev n_order_Latest : Nat := 11
abbrev n_gantkeep4_ordered : Nat := 12
abbrev n_order_Critical : Nat := 13
abbrev n_tools_Book : Nat := 14
abbrev n_gantmake_Below : Nat := 15
abbrev n_tools_First : Nat := 16
abbrev n_gantkeep4_tooled : Nat := 17
abbrev n_tools_Busy : Nat := 18
abbrev n_gantkeep4_Tasks : Nat := 19
abbrev n_tools_Plan : Nat := 20
abbrev n_slices_Clone_intint : Nat := 21
abbrev n_tools_Right : Nat := 22
abbrev n_slices_Clone_antrytoolsTask : Nat := 23
abbrev n_tools_End : Nat := 24
abbrev n_slices_Equal_intint : Nat := 25
abbrev n_order_long : Nat := 26
abbrev n_order_Right : Nat := 27
abbrev n_tools_Check : Nat := 28
abbrev n_tools_Valid : Nat := 29
abbrev n_tools_Clash : Nat := 30
abbrev n_tools_tasks : Nat := 31
abbrev n_order_Check : Nat := 32
abbrev n_slices_Contains_intint : Nat := 33
abbrev n_slices_Index_intint : Nat := 34
def vp : VProg
  | 3 => some gantkeep4_OrderTight_v
  | 4 => some gantkeep4_OrderChain_v
  | 5 => some gantkeep4_ToolsFirstFree_v
  | 6 => some gantkeep4_ToolsEarly_v
  | 7 => some gantkeep4_ToolsNever_v
  | 8 => some gantkeep4_belongs_v
  | 9 => some gantmake_Stream_Next_v
  | 10 => some order_Times_v
  | 11 => some order_Latest_v
  | 12 => some gantkeep4_ordered_v
  | 13 => some order_Critical_v
  | 14 => some tools_Book_v
  | 15 => some gantmake_Below_v
  | 16 => some tools_First_v
  | 17 => some gantkeep4_tooled_v
  | 18 => some tools_Busy_v
  | 19 => some gantkeep4_Tasks_v
  | 20 => some tools_Plan_v
  | 21 => some slices_Clone_intint_v
  | 22 => some tools_Right_v
  | 23 => some slices_Clone_antrytoolsTask_v
  | 24 => some tools_End_v
  | 25 => some slices_Equal_intint_v
  | 26 => some order_long_v
  | 27 => some order_Right_v
  | 28 => some tools_Check_v
  | 29 => some tools_Valid_v
  | 30 => some tools_Clash_v
  | 31 => some tools_tasks_v
  | 32 => some order_Check_v
  | 33 => some slices_Contains_intint_v
  | 34 => some slices_Index_intint_v
  | _ => none
def lp : LProg := fun f => if f = 21 then some slices_Clone_intint_f else if f = 23 then some slices_Clone_antrytoolsTask_f else (vp f).map (·.fn)
theorem lp_ok : PSound Try.prog lp := by
  intro f lf h
  unfold lp at h
  split at h
  · rename_i e; subst e; cases h; exact ⟨_, _, _, Try.func21, slices_Clone_intint_ok⟩
  split at h
  · rename_i e; subst e; cases h; exact ⟨_, _, _, Try.func23, slices_Clone_antrytoolsTask_ok⟩
  unfold vp at h
  split at h
  · cases h; exact ⟨_, _, _, Try.func3, gantkeep4_OrderTight_ok⟩
  · cases h; exact ⟨_, _, _, Try.func4, gantkeep4_OrderChain_ok⟩
  · cases h; exact ⟨_, _, _, Try.func5, gantkeep4_ToolsFirstFree_ok⟩
  · cases h; exact ⟨_, _, _, Try.func6, gantkeep4_ToolsEarly_ok⟩
  · cases h; exact ⟨_, _, _, Try.func7, gantkeep4_ToolsNever_ok⟩
  · cases h; exact ⟨_, _, _, Try.func8, gantkeep4_belongs_ok⟩
  · cases h; exact ⟨_, _, _, Try.func9, gantmake_Stream_Next_ok⟩
  · cases h; exact ⟨_, _, _, Try.func10, order_Times_ok⟩
  · cases h; exact ⟨_, _, _, Try.func11, order_Latest_ok⟩
  · cases h; exact ⟨_, _, _, Try.func12, gantkeep4_ordered_ok⟩
  · cases h; exact ⟨_, _, _, Try.func13, order_Critical_ok⟩
  · cases h; exact ⟨_, _, _, Try.func14, tools_Book_ok⟩
  · cases h; exact ⟨_, _, _, Try.func15, gantmake_Below_ok⟩
  · cases h; exact ⟨_, _, _, Try.func16, tools_First_ok⟩
  · cases h; exact ⟨_, _, _, Try.func17, gantkeep4_tooled_ok⟩
  · cases h; exact ⟨_, _, _, Try.func18, tools_Busy_ok⟩
  · cases h; exact ⟨_, _, _, Try.func19, gantkeep4_Tasks_ok⟩
  · cases h; exact ⟨_, _, _, Try.func20, tools_Plan_ok⟩
  · exact absurd rfl (by assumption)
  · cases h; exact ⟨_, _, _, Try.func22, tools_Right_ok⟩
  · exact absurd rfl (by assumption)
  · cases h; exact ⟨_, _, _, Try.func24, tools_End_ok⟩
  · cases h; exact ⟨_, _, _, Try.func25, slices_Equal_intint_ok⟩
  · cases h; exact ⟨_, _, _, Try.func26, order_long_ok⟩
  · cases h; exact ⟨_, _, _, Try.func27, order_Right_ok⟩
  · cases h; exact ⟨_, _, _, Try.func28, tools_Check_ok⟩
  · cases h; exact ⟨_, _, _, Try.func29, tools_Valid_ok⟩
  · cases h; exact ⟨_, _, _, Try.func30, tools_Clash_ok⟩
  · cases h; exact ⟨_, _, _, Try.func31, tools_tasks_ok⟩
  · cases h; exact ⟨_, _, _, Try.func32, order_Check_ok⟩
  · cases h; exact ⟨_, _, _, Try.func33, slices_Contains_intint_ok⟩
  · cases h; exact ⟨_, _, _, Try.func34, slices_Index_intint_ok⟩
  · cases h
theorem vp_link (f : FuncId) : Link (lp f) (vp f) := by
  unfold lp
  split
  · rename_i e; subst e; exact .clone false false 1 8
  split
  · rename_i e; subst e; exact .clone true true 3 40
  exact .of_eq rfl
theorem law {f : FuncId} {args : List VV} {h1 : VHeap} (hE : callVL vp 0 f args [] = some (.bool true, h1)) {w : World} {ρ : List Lg.Place} {lh : Heap} (R : Rep w ρ lh w) {vs : Array Value} {largs : List LV} (hv : VRs ρ vs.toList largs) (hr : RVs (fun _ => none) [] lh args largs) :
    Calls Try.prog f vs w fun e w' => e = .returned (.bool true) ∧ Below w.heap.size w w' := law_true lp_ok vp_link hE R hv hr
end Vg.G1
