import Derived.Test.YtpclbojoknhnlaaDoorVE5
import Derived.Test.YtpclbojoknhnlaaDoorVVgLib
import Derived.Test.YtpclbojoknhnlaaDoorProg
import Derived.KernelRfl
namespace Vg.G3
open Go Lg Go.RowKit
open Go.Proofs
-- gantry/gantkeep4.CarryLooks
def gantkeep4_CarryLooks_r0 : List LOper := [
  ⟨some 6, none, .mv false (.c (.bool false))⟩]
def gantkeep4_CarryLooks_r1 : List LOper := [
  ⟨some 13, none, .mv false (.t 1)⟩,
  ⟨some 14, none, .call false 37 [(.t 13)]⟩,
  ⟨some 7, none, .alloc [.bool false, .str [], .str [], .bool false, .str [], .str [], .bool false, .bool false, .str [], .str []]⟩,
  ⟨none, none, .store 10 (.t 7) (.t 14)⟩]
def gantkeep4_CarryLooks_r2 : List LOper := [
  ⟨some 15, none, .load false true 10 (.t 7)⟩,
  ⟨some 16, none, .mv false (.t 2)⟩,
  ⟨some 17, none, .call true 21 [(.t 16), (.c (.int .i64 9))]⟩,
  ⟨some 18, none, .bin .add (.c (.int .i64 1)) (.t 17)⟩,
  ⟨some 19, none, .call true 20 [(.t 18), (.c (.int .i64 16))]⟩,
  ⟨some 20, none, .build [.str [], .bool false, .str [], .str [], .bool false, .str [], .str [], .bool false, .bool false, .str [], .str [], .bool false, .str [], .str []] [(1, 10, (.t 15)), (11, 3, (.t 19))]⟩,
  ⟨some 8, none, .alloc [.str [], .bool false, .str [], .str [], .bool false, .str [], .str [], .bool false, .bool false, .str [], .str [], .bool false, .str [], .str []]⟩,
  ⟨none, none, .store 14 (.t 8) (.t 20)⟩]
theorem gantkeep4_CarryLooks_r2_d : drawC [0, 0, 2, 6, 14, 31, 0, 127] [
  ⟨some 15, none, .load false true 10 (.t 7)⟩,
  ⟨some 16, none, .mv false (.t 2)⟩,
  ⟨some 17, none, .call true 21 [(.t 16), (.c (.int .i64 9))]⟩,
  ⟨some 18, none, .bin .add (.c (.int .i64 1)) (.t 17)⟩,
  ⟨some 19, none, .call true 20 [(.t 18), (.c (.int .i64 16))]⟩,
  ⟨some 20, none, .build [.str [], .bool false, .str [], .str [], .bool false, .str [], .str [], .bool false, .bool false, .str [], .str [], .bool false, .str [], .str []] [(1, 10, (.t 15)), (11, 3, (.t 19))]⟩,
  ⟨some 8, none, .alloc [.str [], .bool false, .str [], .str [], .bool false, .str [], .str [], .bool false, .bool false, .str [], .str [], .bool false, .str [], .str []]⟩,
  ⟨none, none, .store 14 (.t 8) (.t 20)⟩] = false ∧ drawW [0, 0, 2, 6, 14, 31, 0, 127] [
  ⟨some 15, none, .load false true 10 (.t 7)⟩,
  ⟨some 16, none, .mv false (.t 2)⟩,
  ⟨some 17, none, .call true 21 [(.t 16), (.c (.int .i64 9))]⟩,
  ⟨some 18, none, .bin .add (.c (.int .i64 1)) (.t 17)⟩,
  ⟨some 19, none, .call true 20 [(.t 18), (.c (.int .i64 16))]⟩,
  ⟨some 20, none, .build [.str [], .bool false, .str [], .str [], .bool false, .str [], .str [], .bool false, .bool false, .str [], .str [], .bool false, .str [], .str []] [(1, 10, (.t 15)), (11, 3, (.t 19))]⟩,
  ⟨some 8, none, .alloc [.str [], .bool false, .str [], .str [], .bool false, .str [], .str [], .bool false, .bool false, .str [], .str [], .bool false, .str [], .str []]⟩,
  ⟨none, none, .store 14 (.t 8) (.t 20)⟩] = true := ⟨by kernel_rfl, by kernel_rfl⟩
def gantkeep4_CarryLooks_r3 : List LOper := [
  ⟨some 21, none, .mv false (.t 0)⟩,
  ⟨some 22, none, .call false 13 [(.t 21)]⟩,
  ⟨some 23, none, .call false 41 [(.c (.int .i64 100))]⟩,
  ⟨some 24, none, .call false 41 [(.c (.int .i64 100))]⟩,
  ⟨some 25, none, .call false 46 [(.t 22), (.t 23), (.t 24)]⟩,
  ⟨some 9, none, .alloc [.bool false, .str [], .str [], .bool false, .str [], .str [], .bool false, .str [], .str [], .bool false, .str [], .str [], .bool false, .str [], .str [], .bool false, .str [], .str []]⟩,
  ⟨none, none, .store 18 (.t 9) (.t 25)⟩]
def gantkeep4_CarryLooks_r4 : List LOper := [
  ⟨some 27, none, .load false true 18 (.t 9)⟩,
  ⟨some 28, none, .load false true 10 (.t 7)⟩,
  ⟨some 29, none, .load false true 14 (.t 8)⟩,
  ⟨some 30, none, .call true 47 [(.t 29)]⟩,
  ⟨some 31, none, .call true 20 [(.c (.int .i64 1)), (.c (.int .i64 8))]⟩,
  ⟨some 32, none, .call true 24 [(.t 27), (.t 28), (.t 30), (.t 31)]⟩,
  ⟨some 26, none, .mv false (.t 32)⟩,
  ⟨some 33, none, .extract 0 (.t 26)⟩,
  ⟨some 34, none, .extract 1 (.t 26)⟩,
  ⟨some 10, none, .alloc [.bool false, .str [], .str [], .bool false, .str [], .str [], .bool false, .str [], .str [], .bool false, .str [], .str [], .bool false, .str [], .str [], .bool false, .str [], .str []]⟩,
  ⟨none, none, .store 18 (.t 10) (.t 33)⟩,
  ⟨some 11, none, .mv false (.t 34)⟩]
theorem gantkeep4_CarryLooks_r4_d : drawC [0, 0, 0, 4, 12, 31, 63, 127, 127, 0, 767, 2047] [
  ⟨some 27, none, .load false true 18 (.t 9)⟩,
  ⟨some 28, none, .load false true 10 (.t 7)⟩,
  ⟨some 29, none, .load false true 14 (.t 8)⟩,
  ⟨some 30, none, .call true 47 [(.t 29)]⟩,
  ⟨some 31, none, .call true 20 [(.c (.int .i64 1)), (.c (.int .i64 8))]⟩,
  ⟨some 32, none, .call true 24 [(.t 27), (.t 28), (.t 30), (.t 31)]⟩,
  ⟨some 26, none, .mv false (.t 32)⟩,
  ⟨some 33, none, .extract 0 (.t 26)⟩,
  ⟨some 34, none, .extract 1 (.t 26)⟩,
  ⟨some 10, none, .alloc [.bool false, .str [], .str [], .bool false, .str [], .str [], .bool false, .str [], .str [], .bool false, .str [], .str [], .bool false, .str [], .str [], .bool false, .str [], .str []]⟩,
  ⟨none, none, .store 18 (.t 10) (.t 33)⟩,
  ⟨some 11, none, .mv false (.t 34)⟩] = false ∧ drawW [0, 0, 0, 4, 12, 31, 63, 127, 127, 0, 767, 2047] [
  ⟨some 27, none, .load false true 18 (.t 9)⟩,
  ⟨some 28, none, .load false true 10 (.t 7)⟩,
  ⟨some 29, none, .load false true 14 (.t 8)⟩,
  ⟨some 30, none, .call true 47 [(.t 29)]⟩,
  ⟨some 31, none, .call true 20 [(.c (.int .i64 1)), (.c (.int .i64 8))]⟩,
  ⟨some 32, none, .call true 24 [(.t 27), (.t 28), (.t 30), (.t 31)]⟩,
  ⟨some 26, none, .mv false (.t 32)⟩,
  ⟨some 33, none, .extract 0 (.t 26)⟩,
  ⟨some 34, none, .extract 1 (.t 26)⟩,
  ⟨some 10, none, .alloc [.bool false, .str [], .str [], .bool false, .str [], .str [], .bool false, .str [], .str [], .bool false, .str [], .str [], .bool false, .str [], .str [], .bool false, .str [], .str []]⟩,
  ⟨none, none, .store 18 (.t 10) (.t 33)⟩,
  ⟨some 11, none, .mv false (.t 34)⟩] = true := ⟨by kernel_rfl, by kernel_rfl⟩
def gantkeep4_CarryLooks_r5 : List LOper := [
  ⟨some 35, none, .fieldAddr 0 (.t 7)⟩,
  ⟨some 36, none, .fieldAddr 0 (.t 35)⟩,
  ⟨some 37, none, .load false true 3 (.t 36)⟩,
  ⟨some 38, none, .call true 41 [(.c (.int .i64 2))]⟩,
  ⟨some 39, none, .call true 23 [(.t 37), (.t 38)]⟩,
  ⟨some 40, none, .fieldAddr 0 (.t 7)⟩,
  ⟨some 41, none, .fieldAddr 0 (.t 40)⟩,
  ⟨some 42, none, .load false true 3 (.t 41)⟩,
  ⟨some 43, none, .call true 41 [(.c (.int .i64 3))]⟩,
  ⟨some 44, none, .call true 23 [(.t 42), (.t 43)]⟩,
  ⟨some 45, none, .build [.bool false, .str [], .str [], .bool false, .str [], .str []] [(0, 3, (.t 39)), (3, 3, (.t 44))]⟩,
  ⟨some 46, none, .fieldAddr 6 (.t 9)⟩,
  ⟨some 47, none, .load false true 6 (.t 46)⟩,
  ⟨some 48, none, .fieldAddr 12 (.t 9)⟩,
  ⟨some 49, none, .load false true 6 (.t 48)⟩,
  ⟨some 50, none, .build [.bool false, .str [], .str [], .bool false, .str [], .str [], .bool false, .str [], .str [], .bool false, .str [], .str [], .bool false, .str [], .str [], .bool false, .str [], .str []] [(0, 6, (.t 45)), (6, 6, (.t 47)), (12, 6, (.t 49))]⟩,
  ⟨some 12, none, .alloc [.bool false, .str [], .str [], .bool false, .str [], .str [], .bool false, .str [], .str [], .bool false, .str [], .str [], .bool false, .str [], .str [], .bool false, .str [], .str []]⟩,
  ⟨none, none, .store 18 (.t 12) (.t 50)⟩]
theorem gantkeep4_CarryLooks_r5_d : drawC [0, 1, 3, 0, 15, 0, 32, 96, 31, 511, 1023, 0, 2048, 0, 8192, 32767, 0, 131071] [
  ⟨some 35, none, .fieldAddr 0 (.t 7)⟩,
  ⟨some 36, none, .fieldAddr 0 (.t 35)⟩,
  ⟨some 37, none, .load false true 3 (.t 36)⟩,
  ⟨some 38, none, .call true 41 [(.c (.int .i64 2))]⟩,
  ⟨some 39, none, .call true 23 [(.t 37), (.t 38)]⟩,
  ⟨some 40, none, .fieldAddr 0 (.t 7)⟩,
  ⟨some 41, none, .fieldAddr 0 (.t 40)⟩,
  ⟨some 42, none, .load false true 3 (.t 41)⟩,
  ⟨some 43, none, .call true 41 [(.c (.int .i64 3))]⟩,
  ⟨some 44, none, .call true 23 [(.t 42), (.t 43)]⟩,
  ⟨some 45, none, .build [.bool false, .str [], .str [], .bool false, .str [], .str []] [(0, 3, (.t 39)), (3, 3, (.t 44))]⟩,
  ⟨some 46, none, .fieldAddr 6 (.t 9)⟩,
  ⟨some 47, none, .load false true 6 (.t 46)⟩,
  ⟨some 48, none, .fieldAddr 12 (.t 9)⟩,
  ⟨some 49, none, .load false true 6 (.t 48)⟩,
  ⟨some 50, none, .build [.bool false, .str [], .str [], .bool false, .str [], .str [], .bool false, .str [], .str [], .bool false, .str [], .str [], .bool false, .str [], .str [], .bool false, .str [], .str []] [(0, 6, (.t 45)), (6, 6, (.t 47)), (12, 6, (.t 49))]⟩,
  ⟨some 12, none, .alloc [.bool false, .str [], .str [], .bool false, .str [], .str [], .bool false, .str [], .str [], .bool false, .str [], .str [], .bool false, .str [], .str [], .bool false, .str [], .str []]⟩,
  ⟨none, none, .store 18 (.t 12) (.t 50)⟩] = false ∧ drawW [0, 1, 3, 0, 15, 0, 32, 96, 31, 511, 1023, 0, 2048, 0, 8192, 32767, 0, 131071] [
  ⟨some 35, none, .fieldAddr 0 (.t 7)⟩,
  ⟨some 36, none, .fieldAddr 0 (.t 35)⟩,
  ⟨some 37, none, .load false true 3 (.t 36)⟩,
  ⟨some 38, none, .call true 41 [(.c (.int .i64 2))]⟩,
  ⟨some 39, none, .call true 23 [(.t 37), (.t 38)]⟩,
  ⟨some 40, none, .fieldAddr 0 (.t 7)⟩,
  ⟨some 41, none, .fieldAddr 0 (.t 40)⟩,
  ⟨some 42, none, .load false true 3 (.t 41)⟩,
  ⟨some 43, none, .call true 41 [(.c (.int .i64 3))]⟩,
  ⟨some 44, none, .call true 23 [(.t 42), (.t 43)]⟩,
  ⟨some 45, none, .build [.bool false, .str [], .str [], .bool false, .str [], .str []] [(0, 3, (.t 39)), (3, 3, (.t 44))]⟩,
  ⟨some 46, none, .fieldAddr 6 (.t 9)⟩,
  ⟨some 47, none, .load false true 6 (.t 46)⟩,
  ⟨some 48, none, .fieldAddr 12 (.t 9)⟩,
  ⟨some 49, none, .load false true 6 (.t 48)⟩,
  ⟨some 50, none, .build [.bool false, .str [], .str [], .bool false, .str [], .str [], .bool false, .str [], .str [], .bool false, .str [], .str [], .bool false, .str [], .str [], .bool false, .str [], .str []] [(0, 6, (.t 45)), (6, 6, (.t 47)), (12, 6, (.t 49))]⟩,
  ⟨some 12, none, .alloc [.bool false, .str [], .str [], .bool false, .str [], .str [], .bool false, .str [], .str [], .bool false, .str [], .str [], .bool false, .str [], .str [], .bool false, .str [], .str []]⟩,
  ⟨none, none, .store 18 (.t 12) (.t 50)⟩] = true := ⟨by kernel_rfl, by kernel_rfl⟩
def gantkeep4_CarryLooks_r6 : List LOper := [
  ⟨some 51, none, .call false 39 []⟩,
  ⟨some 52, none, .mv false (.t 51)⟩,
  ⟨some 53, some (52, true), .mv false (.t 11)⟩,
  ⟨some 54, some (52, true), .bin .eql (.t 53) (.c (.int .i64 0))⟩,
  ⟨some 55, none, .pick (.t 52) (.t 54) (.c (.bool false))⟩,
  ⟨some 56, none, .mv false (.t 55)⟩,
  ⟨some 57, some (56, true), .load false true 18 (.t 10)⟩,
  ⟨some 58, some (56, true), .load false true 14 (.t 8)⟩,
  ⟨some 59, some (56, true), .call false 48 [(.t 57), (.t 58)]⟩,
  ⟨some 60, some (56, true), .bin .eql (.t 59) (.c (.int .i64 0))⟩,
  ⟨some 61, none, .pick (.t 56) (.t 60) (.c (.bool false))⟩,
  ⟨some 62, none, .mv false (.t 61)⟩,
  ⟨some 63, some (62, true), .load false true 18 (.t 9)⟩,
  ⟨some 64, some (62, true), .load false true 14 (.t 8)⟩,
  ⟨some 65, some (62, true), .call false 48 [(.t 63), (.t 64)]⟩,
  ⟨some 66, some (62, true), .bin .eql (.t 65) (.c (.int .i64 18))⟩,
  ⟨some 67, none, .pick (.t 62) (.t 66) (.c (.bool false))⟩,
  ⟨some 68, none, .mv false (.t 67)⟩,
  ⟨some 69, some (68, true), .load false true 18 (.t 12)⟩,
  ⟨some 70, some (68, true), .load false true 14 (.t 8)⟩,
  ⟨some 71, some (68, true), .call false 48 [(.t 69), (.t 70)]⟩,
  ⟨some 72, some (68, true), .bin .eql (.t 71) (.c (.int .i64 17))⟩,
  ⟨some 73, none, .pick (.t 68) (.t 72) (.c (.bool false))⟩,
  ⟨some 6, none, .mv false (.t 73)⟩]
def gantkeep4_CarryLooks_f : LFunc := ⟨74, 3, [.tmp 6], (.seq (.ops gantkeep4_CarryLooks_r0) (.seq (.ops gantkeep4_CarryLooks_r1) (.seq (.dops [0, 0, 2, 6, 14, 31, 0, 127] gantkeep4_CarryLooks_r2) (.seq (.ops gantkeep4_CarryLooks_r3) (.seq (.dops [0, 0, 0, 4, 12, 31, 63, 127, 127, 0, 767, 2047] gantkeep4_CarryLooks_r4) (.seq (.dops [0, 1, 3, 0, 15, 0, 32, 96, 31, 511, 1023, 0, 2048, 0, 8192, 32767, 0, 131071] gantkeep4_CarryLooks_r5) (.seq (.ops gantkeep4_CarryLooks_r6) .ret)))))))⟩
def gantkeep4_CarryLooks_v : VFunc := ⟨gantkeep4_CarryLooks_f, true, false, false⟩
theorem gantkeep4_CarryLooks_ok : preFunc Tryd.prog ⟨[], [], [17, 19, 30, 31, 32, 38, 39, 43, 44]⟩ Tryd.f10 [] = some gantkeep4_CarryLooks_f := by kernel_rfl

-- gantry/gantkeep4.Pose
def gantkeep4_Pose_r0 : List LOper := [
  ⟨some 2, none, .alloc [.bool false, .str [], .str [], .bool false, .str [], .str [], .bool false, .str [], .str [], .bool false, .str [], .str [], .bool false, .str [], .str [], .bool false, .str [], .str []]⟩]
def gantkeep4_Pose_r1 : List LOper := [
  ⟨some 5, none, .mv false (.t 0)⟩,
  ⟨some 6, none, .build [.nilslice] [(0, 1, (.t 5))]⟩,
  ⟨some 7, none, .box (.t 6)⟩,
  ⟨some 3, none, .alloc [.nilptr]⟩,
  ⟨none, none, .store 1 (.t 3) (.t 7)⟩]
def gantkeep4_Pose_r2 : List LOper := [
  ⟨some 8, none, .mkfunc 57 [(.t 3)]⟩,
  ⟨some 4, none, .mv false (.t 8)⟩]
def gantkeep4_Pose_r3 : List LOper := [
  ⟨some 9, none, .mv false (.t 4)⟩,
  ⟨some 10, none, .callv (.t 9) [(.c (.int .i64 20))]⟩,
  ⟨some 11, none, .mv false (.t 4)⟩,
  ⟨some 12, none, .callv (.t 11) [(.c (.int .i64 20))]⟩,
  ⟨some 13, none, .mv false (.t 4)⟩,
  ⟨some 14, none, .callv (.t 13) [(.c (.int .i64 4))]⟩,
  ⟨some 15, none, .build [.bool false, .str [], .str [], .bool false, .str [], .str [], .bool false, .str [], .str [], .bool false, .str [], .str [], .bool false, .str [], .str [], .bool false, .str [], .str []] [(0, 6, (.t 10)), (6, 6, (.t 12)), (12, 6, (.t 14))]⟩,
  ⟨none, none, .store 18 (.t 2) (.t 15)⟩]
def gantkeep4_Pose_f : LFunc := ⟨16, 1, [.cell 2 true 18], (.seq (.ops gantkeep4_Pose_r0) (.seq (.ops gantkeep4_Pose_r1) (.seq (.ops gantkeep4_Pose_r2) (.seq (.ops gantkeep4_Pose_r3) .ret))))⟩
def gantkeep4_Pose_v : VFunc := ⟨gantkeep4_Pose_f, true, false, false⟩
theorem gantkeep4_Pose_ok : preFunc Tryd.prog ⟨[], [], []⟩ Tryd.f13 [] = some gantkeep4_Pose_f := by kernel_rfl

-- gantry/see.Narrow
def see_Narrow_r0 : List LOper := [
  ⟨some 2, none, .box (.t 0)⟩,
  ⟨some 3, none, .box (.t 1)⟩,
  ⟨some 4, none, .alloc [.bool false, .str [], .str [], .bool false, .str [], .str [], .bool false, .str [], .str [], .bool false, .str [], .str [], .bool false, .str [], .str [], .bool false, .str [], .str []]⟩,
  ⟨some 5, none, .mv false (.c (.int .i64 0))⟩]
def see_Narrow_r1 : List LOper := [
  ⟨some 13, none, .fieldAddr 0 (.t 2)⟩,
  ⟨some 14, none, .load false true 6 (.t 13)⟩,
  ⟨some 15, none, .fieldAddr 0 (.t 3)⟩,
  ⟨some 16, none, .load false true 6 (.t 15)⟩,
  ⟨some 17, none, .call false 61 [(.t 14), (.t 16)]⟩,
  ⟨some 12, none, .mv false (.t 17)⟩,
  ⟨some 18, none, .extract 0 (.t 12)⟩,
  ⟨some 19, none, .extract 1 (.t 12)⟩,
  ⟨some 6, none, .alloc [.bool false, .str [], .str [], .bool false, .str [], .str []]⟩,
  ⟨none, none, .store 6 (.t 6) (.t 18)⟩,
  ⟨some 7, none, .mv false (.t 19)⟩]
def see_Narrow_r2 : List LOper := [
  ⟨some 21, none, .fieldAddr 6 (.t 2)⟩,
  ⟨some 22, none, .load false true 6 (.t 21)⟩,
  ⟨some 23, none, .fieldAddr 6 (.t 3)⟩,
  ⟨some 24, none, .load false true 6 (.t 23)⟩,
  ⟨some 25, none, .call false 61 [(.t 22), (.t 24)]⟩,
  ⟨some 20, none, .mv false (.t 25)⟩,
  ⟨some 26, none, .extract 0 (.t 20)⟩,
  ⟨some 27, none, .extract 1 (.t 20)⟩,
  ⟨some 8, none, .alloc [.bool false, .str [], .str [], .bool false, .str [], .str []]⟩,
  ⟨none, none, .store 6 (.t 8) (.t 26)⟩,
  ⟨some 9, none, .mv false (.t 27)⟩]
def see_Narrow_r3 : List LOper := [
  ⟨some 29, none, .fieldAddr 12 (.t 2)⟩,
  ⟨some 30, none, .load false true 6 (.t 29)⟩,
  ⟨some 31, none, .fieldAddr 12 (.t 3)⟩,
  ⟨some 32, none, .load false true 6 (.t 31)⟩,
  ⟨some 33, none, .call false 61 [(.t 30), (.t 32)]⟩,
  ⟨some 28, none, .mv false (.t 33)⟩,
  ⟨some 34, none, .extract 0 (.t 28)⟩,
  ⟨some 35, none, .extract 1 (.t 28)⟩,
  ⟨some 10, none, .alloc [.bool false, .str [], .str [], .bool false, .str [], .str []]⟩,
  ⟨none, none, .store 6 (.t 10) (.t 34)⟩,
  ⟨some 11, none, .mv false (.t 35)⟩]
def see_Narrow_r4 : List LOper := [
  ⟨some 36, none, .mv false (.t 7)⟩,
  ⟨some 37, none, .un .not (.t 36)⟩,
  ⟨some 38, none, .mv false (.t 37)⟩,
  ⟨some 39, some (38, false), .mv false (.t 9)⟩,
  ⟨some 40, some (38, false), .un .not (.t 39)⟩,
  ⟨some 41, none, .pick (.t 38) (.c (.bool true)) (.t 40)⟩,
  ⟨some 42, none, .mv false (.t 41)⟩,
  ⟨some 43, some (42, false), .mv false (.t 11)⟩,
  ⟨some 44, some (42, false), .un .not (.t 43)⟩,
  ⟨some 45, none, .pick (.t 42) (.c (.bool true)) (.t 44)⟩]
def see_Narrow_r5 : List LOper := [
  ⟨some 46, none, .build [.bool false, .str [], .str [], .bool false, .str [], .str [], .bool false, .str [], .str [], .bool false, .str [], .str [], .bool false, .str [], .str [], .bool false, .str [], .str []] []⟩,
  ⟨none, none, .store 18 (.t 4) (.t 46)⟩,
  ⟨some 5, none, .mv false (.c (.int .i64 4))⟩]
def see_Narrow_r6 : List LOper := [
  ⟨some 47, none, .load false true 6 (.t 6)⟩,
  ⟨some 48, none, .load false true 6 (.t 8)⟩,
  ⟨some 49, none, .load false true 6 (.t 10)⟩,
  ⟨some 50, none, .build [.bool false, .str [], .str [], .bool false, .str [], .str [], .bool false, .str [], .str [], .bool false, .str [], .str [], .bool false, .str [], .str [], .bool false, .str [], .str []] [(0, 6, (.t 47)), (6, 6, (.t 48)), (12, 6, (.t 49))]⟩,
  ⟨none, none, .store 18 (.t 4) (.t 50)⟩,
  ⟨some 5, none, .mv false (.c (.int .i64 0))⟩]
def see_Narrow_f : LFunc := ⟨51, 2, [.cell 4 true 18, .tmp 5], (.seq (.ops see_Narrow_r0) (.seq (.ops see_Narrow_r1) (.seq (.ops see_Narrow_r2) (.seq (.ops see_Narrow_r3) (.seq (.seq (.ops see_Narrow_r4) (.cond (.t 45) (.seq (.ops see_Narrow_r5) .ret) .skip)) (.seq (.ops see_Narrow_r6) .ret))))))⟩
def see_Narrow_v : VFunc := ⟨see_Narrow_f, true, false, false⟩
theorem see_Narrow_ok : preFunc Tryd.prog ⟨[], [], []⟩ Tryd.f15 [] = some see_Narrow_f := by kernel_rfl

-- gantry/see.Inside
def see_Inside_r0 : List LOper := [
  ⟨some 2, none, .box (.t 0)⟩,
  ⟨some 3, none, .box (.t 1)⟩,
  ⟨some 4, none, .mv false (.c (.bool false))⟩]
def see_Inside_r1 : List LOper := [
  ⟨some 5, none, .fieldAddr 0 (.t 2)⟩,
  ⟨some 6, none, .load false true 6 (.t 5)⟩,
  ⟨some 7, none, .fieldAddr 0 (.t 3)⟩,
  ⟨some 8, none, .load false true 6 (.t 7)⟩,
  ⟨some 9, none, .call false 64 [(.t 6), (.t 8)]⟩,
  ⟨some 10, none, .mv false (.t 9)⟩,
  ⟨some 11, some (10, true), .fieldAddr 6 (.t 2)⟩,
  ⟨some 12, some (10, true), .load false true 6 (.t 11)⟩,
  ⟨some 13, some (10, true), .fieldAddr 6 (.t 3)⟩,
  ⟨some 14, some (10, true), .load false true 6 (.t 13)⟩,
  ⟨some 15, some (10, true), .call false 64 [(.t 12), (.t 14)]⟩,
  ⟨some 16, none, .pick (.t 10) (.t 15) (.c (.bool false))⟩,
  ⟨some 17, none, .mv false (.t 16)⟩,
  ⟨some 18, some (17, true), .fieldAddr 12 (.t 2)⟩,
  ⟨some 19, some (17, true), .load false true 6 (.t 18)⟩,
  ⟨some 20, some (17, true), .fieldAddr 12 (.t 3)⟩,
  ⟨some 21, some (17, true), .load false true 6 (.t 20)⟩,
  ⟨some 22, some (17, true), .call false 64 [(.t 19), (.t 21)]⟩,
  ⟨some 23, none, .pick (.t 17) (.t 22) (.c (.bool false))⟩,
  ⟨some 4, none, .mv false (.t 23)⟩]
def see_Inside_f : LFunc := ⟨24, 2, [.tmp 4], (.seq (.ops see_Inside_r0) (.seq (.ops see_Inside_r1) .ret))⟩
def see_Inside_v : VFunc := ⟨see_Inside_f, true, false, false⟩
theorem see_Inside_ok : preFunc Tryd.prog ⟨[], [], []⟩ Tryd.f18 [] = some see_Inside_f := by kernel_rfl

-- gantry/gantmake.Of
def gantmake_Of_r0 : List LOper := [
  ⟨some 4, none, .alloc [.bool false, .str [], .str []]⟩]
def gantmake_Of_r1 : List LOper := [
  ⟨some 7, none, .mv false (.t 0)⟩,
  ⟨some 8, none, .mv false (.t 0)⟩,
  ⟨some 9, none, .un .neg (.t 8)⟩,
  ⟨some 10, none, .max2 [(.t 7), (.t 9)]⟩,
  ⟨some 11, none, .mv false (.t 1)⟩,
  ⟨some 5, none, .mv false (.t 10)⟩,
  ⟨some 6, none, .mv false (.t 11)⟩]
def gantmake_Of_r2 : List LOper := [
  ⟨some 12, none, .mv false (.t 6)⟩,
  ⟨some 13, none, .bin .gtr (.t 12) (.c (.int .i64 0))⟩]
def gantmake_Of_r3 : List LOper := [
  ⟨some 14, none, .mv false (.t 6)⟩,
  ⟨some 15, none, .mv false (.t 5)⟩,
  ⟨some 16, none, .mv false (.t 6)⟩,
  ⟨some 17, none, .bin .rem (.t 15) (.t 16)⟩,
  ⟨some 5, none, .mv false (.t 14)⟩,
  ⟨some 6, none, .mv false (.t 17)⟩]
theorem gantmake_Of_r3_d : drawC [0, 0, 0, 6, 3, 31] [
  ⟨some 14, none, .mv false (.t 6)⟩,
  ⟨some 15, none, .mv false (.t 5)⟩,
  ⟨some 16, none, .mv false (.t 6)⟩,
  ⟨some 17, none, .bin .rem (.t 15) (.t 16)⟩,
  ⟨some 5, none, .mv false (.t 14)⟩,
  ⟨some 6, none, .mv false (.t 17)⟩] = true := by kernel_rfl
def gantmake_Of_b0 : LCode := (.seq (.seq (.ops gantmake_Of_r2) (.cond (.t 13) .skip (.exit 0))) (.block 1 (.dops [0, 0, 0, 6, 3, 31] gantmake_Of_r3)))
def gantmake_Of_r4 : List LOper := [
  ⟨some 18, none, .mv false (.t 0)⟩,
  ⟨some 19, none, .mv false (.t 5)⟩,
  ⟨some 20, none, .bin .quo (.t 18) (.t 19)⟩,
  ⟨some 21, none, .mv false (.t 1)⟩,
  ⟨some 22, none, .mv false (.t 5)⟩,
  ⟨some 23, none, .bin .quo (.t 21) (.t 22)⟩,
  ⟨some 0, none, .mv false (.t 20)⟩,
  ⟨some 1, none, .mv false (.t 23)⟩]
theorem gantmake_Of_r4_d : drawC [0, 0, 3, 0, 0, 24, 7, 127] [
  ⟨some 18, none, .mv false (.t 0)⟩,
  ⟨some 19, none, .mv false (.t 5)⟩,
  ⟨some 20, none, .bin .quo (.t 18) (.t 19)⟩,
  ⟨some 21, none, .mv false (.t 1)⟩,
  ⟨some 22, none, .mv false (.t 5)⟩,
  ⟨some 23, none, .bin .quo (.t 21) (.t 22)⟩,
  ⟨some 0, none, .mv false (.t 20)⟩,
  ⟨some 1, none, .mv false (.t 23)⟩] = true := by kernel_rfl
def gantmake_Of_r5 : List LOper := [
  ⟨some 24, none, .mv false (.t 0)⟩,
  ⟨some 25, none, .bin .lss (.t 24) (.c (.int .i64 0))⟩,
  ⟨some 26, none, .mv false (.t 0)⟩,
  ⟨some 27, none, .mv false (.t 0)⟩,
  ⟨some 28, none, .un .neg (.t 27)⟩,
  ⟨some 29, none, .max2 [(.t 26), (.t 28)]⟩,
  ⟨some 30, none, .call false 65 [(.t 29)]⟩,
  ⟨some 31, none, .mv false (.t 1)⟩,
  ⟨some 32, none, .call false 65 [(.t 31)]⟩,
  ⟨some 33, none, .build [.bool false, .str [], .str []] [(0, 1, (.t 25)), (1, 1, (.t 30)), (2, 1, (.t 32))]⟩,
  ⟨none, none, .store 3 (.t 4) (.t 33)⟩]
def gantmake_Of_f : LFunc := ⟨34, 2, [.cell 4 true 3], (.seq (.ops gantmake_Of_r0) (.seq (.ops gantmake_Of_r1) (.seq (.block 0 (.loop [0, 1, 4, 5, 6] gantmake_Of_b0)) (.seq (.dops [0, 0, 3, 0, 0, 24, 7, 127] gantmake_Of_r4) (.seq (.ops gantmake_Of_r5) .ret)))))⟩
def gantmake_Of_v : VFunc := ⟨gantmake_Of_f, true, false, false⟩
theorem gantmake_Of_ok : preFunc Tryd.prog ⟨[], [], []⟩ Tryd.f20 [[0, 1, 4, 5, 6]] = some gantmake_Of_f := by kernel_rfl

-- gantry/gantmake.Below
def gantmake_Below_r0 : List LOper := [
  ⟨some 4, none, .mv false (.c (.int .i64 0))⟩]
def gantmake_Below_r1 : List LOper := [
  ⟨some 5, none, .mv false (.t 0)⟩,
  ⟨some 6, none, .mv false (.t 1)⟩,
  ⟨some 7, none, .bin .rem (.t 5) (.t 6)⟩,
  ⟨some 0, none, .mv false (.t 7)⟩]
def gantmake_Below_r2 : List LOper := [
  ⟨some 8, none, .mv false (.t 0)⟩,
  ⟨some 9, none, .bin .lss (.t 8) (.c (.int .i64 0))⟩]
def gantmake_Below_r3 : List LOper := [
  ⟨some 10, none, .mv false (.t 0)⟩,
  ⟨some 11, none, .mv false (.t 1)⟩,
  ⟨some 12, none, .bin .add (.t 10) (.t 11)⟩,
  ⟨some 0, none, .mv false (.t 12)⟩]
def gantmake_Below_r4 : List LOper := [
  ⟨some 13, none, .mv false (.t 0)⟩,
  ⟨some 4, none, .mv false (.t 13)⟩]
def gantmake_Below_f : LFunc := ⟨14, 2, [.tmp 4], (.seq (.ops gantmake_Below_r0) (.seq (.ops gantmake_Below_r1) (.seq (.seq (.ops gantmake_Below_r2) (.cond (.t 9) (.ops gantmake_Below_r3) .skip)) (.seq (.ops gantmake_Below_r4) .ret))))⟩
def gantmake_Below_v : VFunc := ⟨gantmake_Below_f, true, false, false⟩
theorem gantmake_Below_ok : preFunc Tryd.prog ⟨[], [], []⟩ Tryd.f21 [] = some gantmake_Below_f := by kernel_rfl

-- gantry/rat.Sub
def rat_Sub_r0 : List LOper := [
  ⟨some 2, none, .box (.t 0)⟩,
  ⟨some 3, none, .box (.t 1)⟩,
  ⟨some 4, none, .alloc [.bool false, .str [], .str []]⟩]
def rat_Sub_r1 : List LOper := [
  ⟨some 5, none, .load false true 3 (.t 2)⟩,
  ⟨some 6, none, .load false true 3 (.t 3)⟩,
  ⟨some 7, none, .call true 66 [(.t 6)]⟩,
  ⟨some 8, none, .call true 23 [(.t 5), (.t 7)]⟩,
  ⟨none, none, .store 3 (.t 4) (.t 8)⟩]
theorem rat_Sub_r1_d : drawC [0, 0, 2, 7, 15] [
  ⟨some 5, none, .load false true 3 (.t 2)⟩,
  ⟨some 6, none, .load false true 3 (.t 3)⟩,
  ⟨some 7, none, .call true 66 [(.t 6)]⟩,
  ⟨some 8, none, .call true 23 [(.t 5), (.t 7)]⟩,
  ⟨none, none, .store 3 (.t 4) (.t 8)⟩] = true := by kernel_rfl
def rat_Sub_f : LFunc := ⟨9, 2, [.cell 4 true 3], (.seq (.ops rat_Sub_r0) (.seq (.dops [0, 0, 2, 7, 15] rat_Sub_r1) .ret))⟩
def rat_Sub_v : VFunc := ⟨rat_Sub_f, true, false, false⟩
theorem rat_Sub_ok : preFunc Tryd.prog ⟨[], [], [7, 8]⟩ Tryd.f22 [] = some rat_Sub_f := by kernel_rfl

-- gantry/rat.Add
def rat_Add_r0 : List LOper := [
  ⟨some 2, none, .box (.t 0)⟩,
  ⟨some 3, none, .box (.t 1)⟩,
  ⟨some 4, none, .alloc [.bool false, .str [], .str []]⟩]
def rat_Add_r1 : List LOper := [
  ⟨some 9, none, .load false true 3 (.t 2)⟩,
  ⟨some 10, none, .call true 67 [(.t 9)]⟩,
  ⟨some 11, none, .load false true 3 (.t 3)⟩,
  ⟨some 12, none, .call true 67 [(.t 11)]⟩,
  ⟨none, none, .store 3 (.t 2) (.t 10)⟩,
  ⟨none, none, .store 3 (.t 3) (.t 12)⟩]
theorem rat_Add_r1_d : drawC [0, 1, 0, 7, 15, 31] [
  ⟨some 9, none, .load false true 3 (.t 2)⟩,
  ⟨some 10, none, .call true 67 [(.t 9)]⟩,
  ⟨some 11, none, .load false true 3 (.t 3)⟩,
  ⟨some 12, none, .call true 67 [(.t 11)]⟩,
  ⟨none, none, .store 3 (.t 2) (.t 10)⟩,
  ⟨none, none, .store 3 (.t 3) (.t 12)⟩] = true := by kernel_rfl
def rat_Add_r2 : List LOper := [
  ⟨some 13, none, .fieldAddr 2 (.t 2)⟩,
  ⟨some 14, none, .load false false 1 (.t 13)⟩,
  ⟨some 15, none, .fieldAddr 2 (.t 3)⟩,
  ⟨some 16, none, .load false false 1 (.t 15)⟩,
  ⟨some 17, none, .bin .eql (.t 14) (.t 16)⟩]
def rat_Add_r3 : List LOper := [
  ⟨some 19, none, .fieldAddr 0 (.t 2)⟩,
  ⟨some 20, none, .load false false 1 (.t 19)⟩,
  ⟨some 21, none, .fieldAddr 1 (.t 2)⟩,
  ⟨some 22, none, .load false false 1 (.t 21)⟩,
  ⟨some 23, none, .fieldAddr 0 (.t 3)⟩,
  ⟨some 24, none, .load false false 1 (.t 23)⟩,
  ⟨some 25, none, .fieldAddr 1 (.t 3)⟩,
  ⟨some 26, none, .load false false 1 (.t 25)⟩,
  ⟨some 27, none, .call false 68 [(.t 20), (.t 22), (.t 24), (.t 26)]⟩,
  ⟨some 18, none, .mv false (.t 27)⟩,
  ⟨some 28, none, .extract 0 (.t 18)⟩,
  ⟨some 29, none, .extract 1 (.t 18)⟩,
  ⟨some 5, none, .mv false (.t 28)⟩,
  ⟨some 6, none, .mv false (.t 29)⟩]
def rat_Add_r4 : List LOper := [
  ⟨some 30, none, .mv false (.t 5)⟩,
  ⟨some 31, none, .mv false (.t 6)⟩,
  ⟨some 32, none, .fieldAddr 2 (.t 2)⟩,
  ⟨some 33, none, .load false false 1 (.t 32)⟩,
  ⟨some 34, none, .call false 69 [(.t 30), (.t 31), (.t 33)]⟩,
  ⟨none, none, .store 3 (.t 4) (.t 34)⟩]
def rat_Add_r5 : List LOper := [
  ⟨some 36, none, .fieldAddr 0 (.t 2)⟩,
  ⟨some 37, none, .load false false 1 (.t 36)⟩,
  ⟨some 38, none, .fieldAddr 1 (.t 2)⟩,
  ⟨some 39, none, .load false false 1 (.t 38)⟩,
  ⟨some 40, none, .fieldAddr 2 (.t 3)⟩,
  ⟨some 41, none, .load false false 1 (.t 40)⟩,
  ⟨some 42, none, .call true 70 [(.t 39), (.t 41)]⟩,
  ⟨some 43, none, .fieldAddr 0 (.t 3)⟩,
  ⟨some 44, none, .load false false 1 (.t 43)⟩,
  ⟨some 45, none, .fieldAddr 1 (.t 3)⟩,
  ⟨some 46, none, .load false false 1 (.t 45)⟩,
  ⟨some 47, none, .fieldAddr 2 (.t 2)⟩,
  ⟨some 48, none, .load false false 1 (.t 47)⟩,
  ⟨some 49, none, .call true 70 [(.t 46), (.t 48)]⟩,
  ⟨some 50, none, .call true 68 [(.t 37), (.t 42), (.t 44), (.t 49)]⟩,
  ⟨some 35, none, .mv false (.t 50)⟩,
  ⟨some 51, none, .extract 0 (.t 35)⟩,
  ⟨some 52, none, .extract 1 (.t 35)⟩,
  ⟨some 7, none, .mv false (.t 51)⟩,
  ⟨some 8, none, .mv false (.t 52)⟩]
theorem rat_Add_r5_d : drawC [0, 1, 0, 4, 0, 16, 60, 0, 128, 0, 512, 0, 2048, 7804, 16383, 32767, 65535, 65535, 131071, 524287] [
  ⟨some 36, none, .fieldAddr 0 (.t 2)⟩,
  ⟨some 37, none, .load false false 1 (.t 36)⟩,
  ⟨some 38, none, .fieldAddr 1 (.t 2)⟩,
  ⟨some 39, none, .load false false 1 (.t 38)⟩,
  ⟨some 40, none, .fieldAddr 2 (.t 3)⟩,
  ⟨some 41, none, .load false false 1 (.t 40)⟩,
  ⟨some 42, none, .call true 70 [(.t 39), (.t 41)]⟩,
  ⟨some 43, none, .fieldAddr 0 (.t 3)⟩,
  ⟨some 44, none, .load false false 1 (.t 43)⟩,
  ⟨some 45, none, .fieldAddr 1 (.t 3)⟩,
  ⟨some 46, none, .load false false 1 (.t 45)⟩,
  ⟨some 47, none, .fieldAddr 2 (.t 2)⟩,
  ⟨some 48, none, .load false false 1 (.t 47)⟩,
  ⟨some 49, none, .call true 70 [(.t 46), (.t 48)]⟩,
  ⟨some 50, none, .call true 68 [(.t 37), (.t 42), (.t 44), (.t 49)]⟩,
  ⟨some 35, none, .mv false (.t 50)⟩,
  ⟨some 51, none, .extract 0 (.t 35)⟩,
  ⟨some 52, none, .extract 1 (.t 35)⟩,
  ⟨some 7, none, .mv false (.t 51)⟩,
  ⟨some 8, none, .mv false (.t 52)⟩] = true := by kernel_rfl
def rat_Add_r6 : List LOper := [
  ⟨some 53, none, .mv false (.t 7)⟩,
  ⟨some 54, none, .mv false (.t 8)⟩,
  ⟨some 55, none, .fieldAddr 2 (.t 2)⟩,
  ⟨some 56, none, .load false false 1 (.t 55)⟩,
  ⟨some 57, none, .fieldAddr 2 (.t 3)⟩,
  ⟨some 58, none, .load false false 1 (.t 57)⟩,
  ⟨some 59, none, .call false 70 [(.t 56), (.t 58)]⟩,
  ⟨some 60, none, .call false 69 [(.t 53), (.t 54), (.t 59)]⟩,
  ⟨none, none, .store 3 (.t 4) (.t 60)⟩]
def rat_Add_f : LFunc := ⟨61, 2, [.cell 4 true 3], (.seq (.ops rat_Add_r0) (.seq (.dops [0, 1, 0, 7, 15, 31] rat_Add_r1) (.seq (.seq (.ops rat_Add_r2) (.cond (.t 17) (.seq (.ops rat_Add_r3) (.seq (.ops rat_Add_r4) .ret)) .skip)) (.seq (.dops [0, 1, 0, 4, 0, 16, 60, 0, 128, 0, 512, 0, 2048, 7804, 16383, 32767, 65535, 65535, 131071, 524287] rat_Add_r5) (.seq (.ops rat_Add_r6) .ret)))))⟩
def rat_Add_v : VFunc := ⟨rat_Add_f, true, false, false⟩
theorem rat_Add_ok : preFunc Tryd.prog ⟨[], [], [10, 12, 42, 49, 50]⟩ Tryd.f23 [] = some rat_Add_f := by kernel_rfl

-- gantry/see.Look
def see_Look_r0 : List LOper := [
  ⟨some 4, none, .box (.t 0)⟩,
  ⟨some 5, none, .box (.t 1)⟩,
  ⟨some 6, none, .box (.t 2)⟩,
  ⟨some 7, none, .box (.t 3)⟩,
  ⟨some 8, none, .alloc [.bool false, .str [], .str [], .bool false, .str [], .str [], .bool false, .str [], .str [], .bool false, .str [], .str [], .bool false, .str [], .str [], .bool false, .str [], .str []]⟩,
  ⟨some 9, none, .mv false (.c (.int .i64 0))⟩]
def see_Look_r1 : List LOper := [
  ⟨some 13, none, .load false true 10 (.t 5)⟩,
  ⟨some 14, none, .call false 62 [(.t 13)]⟩,
  ⟨some 12, none, .mv false (.t 14)⟩,
  ⟨some 15, none, .extract 0 (.t 12)⟩,
  ⟨some 16, none, .extract 1 (.t 12)⟩,
  ⟨some 10, none, .alloc [.bool false, .str [], .str [], .bool false, .str [], .str [], .bool false, .str [], .str [], .bool false, .str [], .str [], .bool false, .str [], .str [], .bool false, .str [], .str []]⟩,
  ⟨none, none, .store 18 (.t 10) (.t 15)⟩,
  ⟨some 11, none, .mv false (.t 16)⟩]
def see_Look_r2 : List LOper := [
  ⟨some 17, none, .mv false (.t 11)⟩,
  ⟨some 18, none, .bin .neq (.t 17) (.c (.int .i64 0))⟩]
def see_Look_r3 : List LOper := [
  ⟨some 19, none, .build [.bool false, .str [], .str [], .bool false, .str [], .str [], .bool false, .str [], .str [], .bool false, .str [], .str [], .bool false, .str [], .str [], .bool false, .str [], .str []] []⟩,
  ⟨some 20, none, .mv false (.t 11)⟩,
  ⟨none, none, .store 18 (.t 8) (.t 19)⟩,
  ⟨some 9, none, .mv false (.t 20)⟩]
def see_Look_r4 : List LOper := [
  ⟨some 21, none, .load false true 18 (.t 4)⟩,
  ⟨some 22, none, .load false true 18 (.t 10)⟩,
  ⟨some 23, none, .load false true 3 (.t 6)⟩,
  ⟨some 24, none, .load false true 3 (.t 7)⟩,
  ⟨some 25, none, .call true 46 [(.t 22), (.t 23), (.t 24)]⟩,
  ⟨some 26, none, .call true 15 [(.t 21), (.t 25)]⟩,
  ⟨some 27, none, .extract 0 (.t 26)⟩,
  ⟨some 28, none, .extract 1 (.t 26)⟩,
  ⟨none, none, .store 18 (.t 8) (.t 27)⟩,
  ⟨some 9, none, .mv false (.t 28)⟩]
theorem see_Look_r4_d : drawC [0, 0, 0, 0, 14, 31, 63, 63, 255, 511] [
  ⟨some 21, none, .load false true 18 (.t 4)⟩,
  ⟨some 22, none, .load false true 18 (.t 10)⟩,
  ⟨some 23, none, .load false true 3 (.t 6)⟩,
  ⟨some 24, none, .load false true 3 (.t 7)⟩,
  ⟨some 25, none, .call true 46 [(.t 22), (.t 23), (.t 24)]⟩,
  ⟨some 26, none, .call true 15 [(.t 21), (.t 25)]⟩,
  ⟨some 27, none, .extract 0 (.t 26)⟩,
  ⟨some 28, none, .extract 1 (.t 26)⟩,
  ⟨none, none, .store 18 (.t 8) (.t 27)⟩,
  ⟨some 9, none, .mv false (.t 28)⟩] = true := by kernel_rfl
def see_Look_f : LFunc := ⟨29, 4, [.cell 8 true 18, .tmp 9], (.seq (.ops see_Look_r0) (.seq (.ops see_Look_r1) (.seq (.seq (.ops see_Look_r2) (.cond (.t 18) (.seq (.ops see_Look_r3) .ret) .skip)) (.seq (.dops [0, 0, 0, 0, 14, 31, 63, 63, 255, 511] see_Look_r4) .ret))))⟩
def see_Look_v : VFunc := ⟨see_Look_f, true, false, false⟩
theorem see_Look_ok : preFunc Tryd.prog ⟨[], [], [25, 26]⟩ Tryd.f24 [] = some see_Look_f := by kernel_rfl

-- gantry/rat.Cmp
def rat_Cmp_r0 : List LOper := [
  ⟨some 2, none, .box (.t 0)⟩,
  ⟨some 3, none, .box (.t 1)⟩,
  ⟨some 4, none, .mv false (.c (.int .i64 0))⟩]
def rat_Cmp_r1 : List LOper := [
  ⟨some 6, none, .load false true 3 (.t 2)⟩,
  ⟨some 7, none, .call true 67 [(.t 6)]⟩,
  ⟨some 8, none, .load false true 3 (.t 3)⟩,
  ⟨some 9, none, .call true 67 [(.t 8)]⟩,
  ⟨none, none, .store 3 (.t 2) (.t 7)⟩,
  ⟨none, none, .store 3 (.t 3) (.t 9)⟩]
theorem rat_Cmp_r1_d : drawC [0, 1, 0, 7, 15, 31] [
  ⟨some 6, none, .load false true 3 (.t 2)⟩,
  ⟨some 7, none, .call true 67 [(.t 6)]⟩,
  ⟨some 8, none, .load false true 3 (.t 3)⟩,
  ⟨some 9, none, .call true 67 [(.t 8)]⟩,
  ⟨none, none, .store 3 (.t 2) (.t 7)⟩,
  ⟨none, none, .store 3 (.t 3) (.t 9)⟩] = true := by kernel_rfl
def rat_Cmp_r2 : List LOper := [
  ⟨some 10, none, .fieldAddr 0 (.t 2)⟩,
  ⟨some 11, none, .load false false 1 (.t 10)⟩,
  ⟨some 12, none, .fieldAddr 0 (.t 3)⟩,
  ⟨some 13, none, .load false false 1 (.t 12)⟩,
  ⟨some 14, none, .eqv true .bool (.t 11) (.t 13)⟩]
def rat_Cmp_r3 : List LOper := [
  ⟨some 15, none, .fieldAddr 0 (.t 2)⟩,
  ⟨some 16, none, .load false false 1 (.t 15)⟩]
def rat_Cmp_r4 : List LOper := [
  ⟨some 4, none, .mv false (.c (.int .i64 (-1)))⟩]
def rat_Cmp_r5 : List LOper := [
  ⟨some 4, none, .mv false (.c (.int .i64 1))⟩]
def rat_Cmp_r6 : List LOper := [
  ⟨some 17, none, .fieldAddr 1 (.t 2)⟩,
  ⟨some 18, none, .load false false 1 (.t 17)⟩,
  ⟨some 19, none, .fieldAddr 2 (.t 3)⟩,
  ⟨some 20, none, .load false false 1 (.t 19)⟩,
  ⟨some 21, none, .call true 70 [(.t 18), (.t 20)]⟩,
  ⟨some 22, none, .fieldAddr 1 (.t 3)⟩,
  ⟨some 23, none, .load false false 1 (.t 22)⟩,
  ⟨some 24, none, .fieldAddr 2 (.t 2)⟩,
  ⟨some 25, none, .load false false 1 (.t 24)⟩,
  ⟨some 26, none, .call true 70 [(.t 23), (.t 25)]⟩,
  ⟨some 27, none, .call true 73 [(.t 21), (.t 26)]⟩,
  ⟨some 5, none, .mv false (.t 27)⟩]
theorem rat_Cmp_r6_d : drawC [0, 1, 0, 4, 15, 0, 32, 0, 128, 511, 1023, 2047] [
  ⟨some 17, none, .fieldAddr 1 (.t 2)⟩,
  ⟨some 18, none, .load false false 1 (.t 17)⟩,
  ⟨some 19, none, .fieldAddr 2 (.t 3)⟩,
  ⟨some 20, none, .load false false 1 (.t 19)⟩,
  ⟨some 21, none, .call true 70 [(.t 18), (.t 20)]⟩,
  ⟨some 22, none, .fieldAddr 1 (.t 3)⟩,
  ⟨some 23, none, .load false false 1 (.t 22)⟩,
  ⟨some 24, none, .fieldAddr 2 (.t 2)⟩,
  ⟨some 25, none, .load false false 1 (.t 24)⟩,
  ⟨some 26, none, .call true 70 [(.t 23), (.t 25)]⟩,
  ⟨some 27, none, .call true 73 [(.t 21), (.t 26)]⟩,
  ⟨some 5, none, .mv false (.t 27)⟩] = true := by kernel_rfl
def rat_Cmp_r7 : List LOper := [
  ⟨some 28, none, .fieldAddr 0 (.t 2)⟩,
  ⟨some 29, none, .load false false 1 (.t 28)⟩]
def rat_Cmp_r8 : List LOper := [
  ⟨some 30, none, .mv false (.t 5)⟩,
  ⟨some 31, none, .un .neg (.t 30)⟩,
  ⟨some 4, none, .mv false (.t 31)⟩]
def rat_Cmp_r9 : List LOper := [
  ⟨some 32, none, .mv false (.t 5)⟩,
  ⟨some 4, none, .mv false (.t 32)⟩]
def rat_Cmp_f : LFunc := ⟨33, 2, [.tmp 4], (.seq (.ops rat_Cmp_r0) (.seq (.dops [0, 1, 0, 7, 15, 31] rat_Cmp_r1) (.seq (.seq (.ops rat_Cmp_r2) (.cond (.t 14) (.seq (.seq (.ops rat_Cmp_r3) (.cond (.t 16) (.seq (.ops rat_Cmp_r4) .ret) .skip)) (.seq (.ops rat_Cmp_r5) .ret)) .skip)) (.seq (.dops [0, 1, 0, 4, 15, 0, 32, 0, 128, 511, 1023, 2047] rat_Cmp_r6) (.seq (.seq (.ops rat_Cmp_r7) (.cond (.t 29) (.seq (.ops rat_Cmp_r8) .ret) .skip)) (.seq (.ops rat_Cmp_r9) .ret))))))⟩
def rat_Cmp_v : VFunc := ⟨rat_Cmp_f, true, false, false⟩
theorem rat_Cmp_ok : preFunc Tryd.prog ⟨[], [], [7, 9, 21, 26, 27]⟩ Tryd.f26 [] = some rat_Cmp_f := by kernel_rfl

-- gantry/gantkeep4.Frame
def gantkeep4_Frame_r0 : List LOper := [
  ⟨some 2, none, .alloc [.bool false, .str [], .str [], .bool false, .str [], .str [], .bool false, .bool false, .str [], .str []]⟩]
def gantkeep4_Frame_r1 : List LOper := [
  ⟨some 4, none, .mv false (.t 0)⟩,
  ⟨some 5, none, .build [.nilslice] [(0, 1, (.t 4))]⟩,
  ⟨some 6, none, .box (.t 5)⟩,
  ⟨some 3, none, .mv false (.t 6)⟩]
def gantkeep4_Frame_r2 : List LOper := [
  ⟨some 7, none, .mv false (.t 3)⟩,
  ⟨some 8, none, .call false 58 [(.t 7), (.c (.int .i64 33))]⟩,
  ⟨some 9, none, .bin .sub (.t 8) (.c (.int .i64 16))⟩,
  ⟨some 10, none, .call false 20 [(.t 9), (.c (.int .i64 2))]⟩,
  ⟨some 11, none, .mv false (.t 3)⟩,
  ⟨some 12, none, .call false 58 [(.t 11), (.c (.int .i64 33))]⟩,
  ⟨some 13, none, .bin .sub (.t 12) (.c (.int .i64 16))⟩,
  ⟨some 14, none, .call false 20 [(.t 13), (.c (.int .i64 2))]⟩,
  ⟨some 15, none, .build [.bool false, .str [], .str [], .bool false, .str [], .str []] [(0, 3, (.t 10)), (3, 3, (.t 14))]⟩,
  ⟨some 16, none, .mv false (.t 3)⟩,
  ⟨some 17, none, .call false 58 [(.t 16), (.c (.int .i64 9))]⟩,
  ⟨some 18, none, .bin .sub (.t 17) (.c (.int .i64 4))⟩,
  ⟨some 19, none, .call false 20 [(.t 18), (.c (.int .i64 4))]⟩,
  ⟨some 20, none, .build [.bool false, .bool false, .str [], .str []] [(1, 3, (.t 19))]⟩,
  ⟨some 21, none, .build [.bool false, .str [], .str [], .bool false, .str [], .str [], .bool false, .bool false, .str [], .str []] [(0, 6, (.t 15)), (6, 4, (.t 20))]⟩,
  ⟨none, none, .store 10 (.t 2) (.t 21)⟩]
def gantkeep4_Frame_f : LFunc := ⟨22, 1, [.cell 2 true 10], (.seq (.ops gantkeep4_Frame_r0) (.seq (.ops gantkeep4_Frame_r1) (.seq (.ops gantkeep4_Frame_r2) .ret)))⟩
def gantkeep4_Frame_v : VFunc := ⟨gantkeep4_Frame_f, true, false, false⟩
theorem gantkeep4_Frame_ok : preFunc Tryd.prog ⟨[], [], []⟩ Tryd.f37 [] = some gantkeep4_Frame_f := by kernel_rfl

-- gantry/gantkeep4.carried
def gantkeep4_carried_r0 : List LOper := [
  ⟨some 0, none, .mv false (.c (.bool false))⟩]
def gantkeep4_carried_r1 : List LOper := [
  ⟨some 4, none, .build [.bool false, .str [], .str [], .bool false, .str [], .str [], .bool false, .str [], .str [], .bool false, .str [], .str [], .bool false, .str [], .str [], .bool false, .str [], .str []] []⟩,
  ⟨some 5, none, .call false 41 [(.c (.int .i64 2))]⟩,
  ⟨some 6, none, .build [.bool false, .str [], .str [], .bool false, .str [], .str []] [(0, 3, (.t 5))]⟩,
  ⟨some 7, none, .build [.bool false, .str [], .str [], .bool false, .str [], .str [], .bool false, .bool false, .str [], .str []] [(0, 6, (.t 6))]⟩,
  ⟨some 8, none, .call false 51 [(.t 4), (.t 7)]⟩,
  ⟨some 3, none, .mv false (.t 8)⟩,
  ⟨some 9, none, .extract 0 (.t 3)⟩,
  ⟨some 10, none, .extract 1 (.t 3)⟩,
  ⟨some 1, none, .alloc [.bool false, .str [], .str [], .bool false, .str [], .str [], .bool false, .str [], .str [], .bool false, .str [], .str [], .bool false, .str [], .str [], .bool false, .str [], .str []]⟩,
  ⟨none, none, .store 18 (.t 1) (.t 9)⟩,
  ⟨some 2, none, .mv false (.t 10)⟩]
def gantkeep4_carried_r2 : List LOper := [
  ⟨some 11, none, .mv false (.t 2)⟩,
  ⟨some 12, none, .bin .eql (.t 11) (.c (.int .i64 0))⟩,
  ⟨some 13, none, .mv false (.t 12)⟩,
  ⟨some 14, some (13, true), .fieldAddr 0 (.t 1)⟩,
  ⟨some 15, some (13, true), .fieldAddr 0 (.t 14)⟩,
  ⟨some 16, some (13, true), .load false true 3 (.t 15)⟩,
  ⟨some 17, some (13, true), .call true 41 [(.c (.int .i64 (-2)))]⟩,
  ⟨some 18, some (13, true), .call true 26 [(.t 16), (.t 17)]⟩,
  ⟨some 19, some (13, true), .bin .eql (.t 18) (.c (.int .i64 0))⟩,
  ⟨some 20, none, .pick (.t 13) (.t 19) (.c (.bool false))⟩,
  ⟨some 0, none, .mv false (.t 20)⟩]
theorem gantkeep4_carried_r2_d : drawC [0, 1, 3, 7, 15, 31, 7, 127, 255, 511, 1023] [
  ⟨some 11, none, .mv false (.t 2)⟩,
  ⟨some 12, none, .bin .eql (.t 11) (.c (.int .i64 0))⟩,
  ⟨some 13, none, .mv false (.t 12)⟩,
  ⟨some 14, some (13, true), .fieldAddr 0 (.t 1)⟩,
  ⟨some 15, some (13, true), .fieldAddr 0 (.t 14)⟩,
  ⟨some 16, some (13, true), .load false true 3 (.t 15)⟩,
  ⟨some 17, some (13, true), .call true 41 [(.c (.int .i64 (-2)))]⟩,
  ⟨some 18, some (13, true), .call true 26 [(.t 16), (.t 17)]⟩,
  ⟨some 19, some (13, true), .bin .eql (.t 18) (.c (.int .i64 0))⟩,
  ⟨some 20, none, .pick (.t 13) (.t 19) (.c (.bool false))⟩,
  ⟨some 0, none, .mv false (.t 20)⟩] = true := by kernel_rfl
def gantkeep4_carried_f : LFunc := ⟨21, 0, [.tmp 0], (.seq (.ops gantkeep4_carried_r0) (.seq (.ops gantkeep4_carried_r1) (.seq (.dops [0, 1, 3, 7, 15, 31, 7, 127, 255, 511, 1023] gantkeep4_carried_r2) .ret)))⟩
def gantkeep4_carried_v : VFunc := ⟨gantkeep4_carried_f, true, false, false⟩
theorem gantkeep4_carried_ok : preFunc Tryd.prog ⟨[], [], [17, 18]⟩ Tryd.f39 [] = some gantkeep4_carried_f := by kernel_rfl

-- gantry/rat.Of
def rat_Of_r0 : List LOper := [
  ⟨some 2, none, .alloc [.bool false, .str [], .str []]⟩]
def rat_Of_r1 : List LOper := [
  ⟨some 3, none, .mv false (.t 0)⟩,
  ⟨some 4, none, .bin .geq (.t 3) (.c (.int .i64 0))⟩]
def rat_Of_r2 : List LOper := [
  ⟨some 5, none, .mv false (.t 0)⟩,
  ⟨some 6, none, .call false 93 [(.t 5)]⟩,
  ⟨some 7, none, .call false 69 [(.c (.bool false)), (.t 6), (.c (.str [1]))]⟩,
  ⟨none, none, .store 3 (.t 2) (.t 7)⟩]
def rat_Of_r3 : List LOper := [
  ⟨some 8, none, .mv false (.t 0)⟩,
  ⟨some 9, none, .bin .add (.t 8) (.c (.int .i64 1))⟩,
  ⟨some 10, none, .un .neg (.t 9)⟩,
  ⟨some 11, none, .call false 93 [(.t 10)]⟩,
  ⟨some 12, none, .call false 94 [(.t 11), (.c (.str [1]))]⟩,
  ⟨some 13, none, .call false 69 [(.c (.bool true)), (.t 12), (.c (.str [1]))]⟩,
  ⟨none, none, .store 3 (.t 2) (.t 13)⟩]
def rat_Of_f : LFunc := ⟨14, 1, [.cell 2 true 3], (.seq (.ops rat_Of_r0) (.seq (.seq (.ops rat_Of_r1) (.cond (.t 4) (.seq (.ops rat_Of_r2) .ret) .skip)) (.seq (.ops rat_Of_r3) .ret)))⟩
def rat_Of_v : VFunc := ⟨rat_Of_f, true, false, false⟩
theorem rat_Of_ok : preFunc Tryd.prog ⟨[], [], []⟩ Tryd.f41 [] = some rat_Of_f := by kernel_rfl

-- gantry/see.Widen
def see_Widen_r0 : List LOper := [
  ⟨some 3, none, .box (.t 0)⟩,
  ⟨some 4, none, .box (.t 1)⟩,
  ⟨some 5, none, .box (.t 2)⟩,
  ⟨some 6, none, .alloc [.bool false, .str [], .str [], .bool false, .str [], .str [], .bool false, .str [], .str [], .bool false, .str [], .str [], .bool false, .str [], .str [], .bool false, .str [], .str []]⟩]
def see_Widen_r1 : List LOper := [
  ⟨some 7, none, .fieldAddr 0 (.t 3)⟩,
  ⟨some 8, none, .load false true 6 (.t 7)⟩,
  ⟨some 9, none, .load false true 3 (.t 4)⟩,
  ⟨some 10, none, .call true 99 [(.t 8), (.t 9)]⟩,
  ⟨some 11, none, .fieldAddr 6 (.t 3)⟩,
  ⟨some 12, none, .load false true 6 (.t 11)⟩,
  ⟨some 13, none, .load false true 3 (.t 4)⟩,
  ⟨some 14, none, .call true 99 [(.t 12), (.t 13)]⟩,
  ⟨some 15, none, .fieldAddr 12 (.t 3)⟩,
  ⟨some 16, none, .load false true 6 (.t 15)⟩,
  ⟨some 17, none, .load false true 3 (.t 5)⟩,
  ⟨some 18, none, .call true 99 [(.t 16), (.t 17)]⟩,
  ⟨some 19, none, .build [.bool false, .str [], .str [], .bool false, .str [], .str [], .bool false, .str [], .str [], .bool false, .str [], .str [], .bool false, .str [], .str [], .bool false, .str [], .str []] [(0, 6, (.t 10)), (6, 6, (.t 14)), (12, 6, (.t 18))]⟩,
  ⟨none, none, .store 18 (.t 6) (.t 19)⟩]
theorem see_Widen_r1_d : drawC [0, 1, 0, 7, 0, 16, 0, 127, 0, 256, 0, 2047, 4095, 8191] [
  ⟨some 7, none, .fieldAddr 0 (.t 3)⟩,
  ⟨some 8, none, .load false true 6 (.t 7)⟩,
  ⟨some 9, none, .load false true 3 (.t 4)⟩,
  ⟨some 10, none, .call true 99 [(.t 8), (.t 9)]⟩,
  ⟨some 11, none, .fieldAddr 6 (.t 3)⟩,
  ⟨some 12, none, .load false true 6 (.t 11)⟩,
  ⟨some 13, none, .load false true 3 (.t 4)⟩,
  ⟨some 14, none, .call true 99 [(.t 12), (.t 13)]⟩,
  ⟨some 15, none, .fieldAddr 12 (.t 3)⟩,
  ⟨some 16, none, .load false true 6 (.t 15)⟩,
  ⟨some 17, none, .load false true 3 (.t 5)⟩,
  ⟨some 18, none, .call true 99 [(.t 16), (.t 17)]⟩,
  ⟨some 19, none, .build [.bool false, .str [], .str [], .bool false, .str [], .str [], .bool false, .str [], .str [], .bool false, .str [], .str [], .bool false, .str [], .str [], .bool false, .str [], .str []] [(0, 6, (.t 10)), (6, 6, (.t 14)), (12, 6, (.t 18))]⟩,
  ⟨none, none, .store 18 (.t 6) (.t 19)⟩] = true := by kernel_rfl
def see_Widen_f : LFunc := ⟨20, 3, [.cell 6 true 18], (.seq (.ops see_Widen_r0) (.seq (.dops [0, 1, 0, 7, 0, 16, 0, 127, 0, 256, 0, 2047, 4095, 8191] see_Widen_r1) .ret))⟩
def see_Widen_v : VFunc := ⟨see_Widen_f, true, false, false⟩
theorem see_Widen_ok : preFunc Tryd.prog ⟨[], [], [10, 14, 18]⟩ Tryd.f46 [] = some see_Widen_f := by kernel_rfl

-- gantry/carry.Looks
def carry_Looks_r0 : List LOper := [
  ⟨some 1, none, .box (.t 0)⟩,
  ⟨some 2, none, .alloc [.bool false, .str [], .str []]⟩]
def carry_Looks_r1 : List LOper := [
  ⟨some 3, none, .fieldAddr 11 (.t 1)⟩,
  ⟨some 4, none, .load false true 3 (.t 3)⟩,
  ⟨some 5, none, .call true 41 [(.c (.int .i64 0))]⟩,
  ⟨some 6, none, .call true 71 [(.t 4), (.t 5)]⟩,
  ⟨none, none, .store 3 (.t 2) (.t 6)⟩]
theorem carry_Looks_r1_d : drawC [0, 1, 0, 7, 15] [
  ⟨some 3, none, .fieldAddr 11 (.t 1)⟩,
  ⟨some 4, none, .load false true 3 (.t 3)⟩,
  ⟨some 5, none, .call true 41 [(.c (.int .i64 0))]⟩,
  ⟨some 6, none, .call true 71 [(.t 4), (.t 5)]⟩,
  ⟨none, none, .store 3 (.t 2) (.t 6)⟩] = true := by kernel_rfl
def carry_Looks_f : LFunc := ⟨7, 1, [.cell 2 true 3], (.seq (.ops carry_Looks_r0) (.seq (.dops [0, 1, 0, 7, 15] carry_Looks_r1) .ret))⟩
def carry_Looks_v : VFunc := ⟨carry_Looks_f, true, false, false⟩
theorem carry_Looks_ok : preFunc Tryd.prog ⟨[], [], [5, 6]⟩ Tryd.f47 [] = some carry_Looks_f := by kernel_rfl

-- gantry/carry.Need
def carry_Need_r0 : List LOper := [
  ⟨some 2, none, .box (.t 0)⟩,
  ⟨some 3, none, .box (.t 1)⟩,
  ⟨some 4, none, .mv false (.c (.int .i64 0))⟩]
def carry_Need_r1 : List LOper := [
  ⟨some 9, none, .load false true 14 (.t 3)⟩,
  ⟨some 10, none, .call false 100 [(.t 9)]⟩,
  ⟨some 8, none, .mv false (.t 10)⟩,
  ⟨some 11, none, .extract 0 (.t 8)⟩,
  ⟨some 12, none, .extract 1 (.t 8)⟩,
  ⟨some 5, none, .alloc [.bool false, .str [], .str [], .bool false, .str [], .str []]⟩,
  ⟨some 6, none, .alloc [.bool false, .str [], .str [], .bool false, .str [], .str []]⟩,
  ⟨none, none, .store 6 (.t 5) (.t 11)⟩,
  ⟨none, none, .store 6 (.t 6) (.t 12)⟩]
def carry_Need_r2 : List LOper := [
  ⟨some 13, none, .fieldAddr 0 (.t 2)⟩,
  ⟨some 14, none, .load false true 6 (.t 13)⟩,
  ⟨some 15, none, .load false true 6 (.t 5)⟩,
  ⟨some 16, none, .call false 101 [(.t 14), (.t 15)]⟩,
  ⟨some 17, none, .un .not (.t 16)⟩,
  ⟨some 18, none, .mv false (.t 17)⟩,
  ⟨some 19, some (18, false), .fieldAddr 6 (.t 2)⟩,
  ⟨some 20, some (18, false), .load false true 6 (.t 19)⟩,
  ⟨some 21, some (18, false), .load false true 6 (.t 6)⟩,
  ⟨some 22, some (18, false), .call false 101 [(.t 20), (.t 21)]⟩,
  ⟨some 23, some (18, false), .un .not (.t 22)⟩,
  ⟨some 24, none, .pick (.t 18) (.c (.bool true)) (.t 23)⟩]
def carry_Need_r3 : List LOper := [
  ⟨some 4, none, .mv false (.c (.int .i64 17))⟩]
def carry_Need_r4 : List LOper := [
  ⟨some 25, none, .load false true 6 (.t 5)⟩,
  ⟨some 26, none, .load false true 6 (.t 6)⟩,
  ⟨some 27, none, .fieldAddr 12 (.t 2)⟩,
  ⟨some 28, none, .load false true 6 (.t 27)⟩,
  ⟨some 29, none, .build [.bool false, .str [], .str [], .bool false, .str [], .str [], .bool false, .str [], .str [], .bool false, .str [], .str [], .bool false, .str [], .str [], .bool false, .str [], .str []] [(0, 6, (.t 25)), (6, 6, (.t 26)), (12, 6, (.t 28))]⟩,
  ⟨some 7, none, .alloc [.bool false, .str [], .str [], .bool false, .str [], .str [], .bool false, .str [], .str [], .bool false, .str [], .str [], .bool false, .str [], .str [], .bool false, .str [], .str []]⟩,
  ⟨none, none, .store 18 (.t 7) (.t 29)⟩]
def carry_Need_r5 : List LOper := [
  ⟨some 30, none, .load false true 18 (.t 2)⟩,
  ⟨some 31, none, .load false true 18 (.t 7)⟩,
  ⟨some 32, none, .call false 18 [(.t 30), (.t 31)]⟩]
def carry_Need_r6 : List LOper := [
  ⟨some 4, none, .mv false (.c (.int .i64 0))⟩]
def carry_Need_r7 : List LOper := [
  ⟨some 4, none, .mv false (.c (.int .i64 18))⟩]
def carry_Need_f : LFunc := ⟨33, 2, [.tmp 4], (.seq (.ops carry_Need_r0) (.seq (.ops carry_Need_r1) (.seq (.seq (.ops carry_Need_r2) (.cond (.t 24) (.seq (.ops carry_Need_r3) .ret) .skip)) (.seq (.ops carry_Need_r4) (.seq (.seq (.ops carry_Need_r5) (.cond (.t 32) (.seq (.ops carry_Need_r6) .ret) .skip)) (.seq (.ops carry_Need_r7) .ret))))))⟩
def carry_Need_v : VFunc := ⟨carry_Need_f, true, false, false⟩
theorem carry_Need_ok : preFunc Tryd.prog ⟨[], [], []⟩ Tryd.f48 [] = some carry_Need_f := by kernel_rfl

-- gantry/carry.Grip
def carry_Grip_r0 : List LOper := [
  ⟨some 2, none, .box (.t 0)⟩,
  ⟨some 3, none, .box (.t 1)⟩,
  ⟨some 4, none, .alloc [.bool false, .str [], .str [], .bool false, .str [], .str [], .bool false, .str [], .str [], .bool false, .str [], .str [], .bool false, .str [], .str [], .bool false, .str [], .str []]⟩,
  ⟨some 5, none, .mv false (.c (.int .i64 0))⟩]
def carry_Grip_r1 : List LOper := [
  ⟨some 10, none, .fieldAddr 6 (.t 3)⟩,
  ⟨some 11, none, .fieldAddr 0 (.t 10)⟩,
  ⟨some 12, none, .load false false 1 (.t 11)⟩]
def carry_Grip_r2 : List LOper := [
  ⟨some 13, none, .build [.bool false, .str [], .str [], .bool false, .str [], .str [], .bool false, .str [], .str [], .bool false, .str [], .str [], .bool false, .str [], .str [], .bool false, .str [], .str []] []⟩,
  ⟨none, none, .store 18 (.t 4) (.t 13)⟩,
  ⟨some 5, none, .mv false (.c (.int .i64 3))⟩]
def carry_Grip_r3 : List LOper := [
  ⟨some 15, none, .fieldAddr 12 (.t 2)⟩,
  ⟨some 16, none, .load false true 6 (.t 15)⟩,
  ⟨some 17, none, .fieldAddr 6 (.t 3)⟩,
  ⟨some 18, none, .fieldAddr 1 (.t 17)⟩,
  ⟨some 19, none, .load false true 3 (.t 18)⟩,
  ⟨some 20, none, .call true 66 [(.t 19)]⟩,
  ⟨some 21, none, .call true 106 [(.t 16), (.t 20)]⟩,
  ⟨some 14, none, .mv false (.t 21)⟩,
  ⟨some 22, none, .extract 0 (.t 14)⟩,
  ⟨some 23, none, .extract 1 (.t 14)⟩,
  ⟨some 6, none, .alloc [.bool false, .str [], .str [], .bool false, .str [], .str []]⟩,
  ⟨none, none, .store 6 (.t 6) (.t 22)⟩,
  ⟨some 7, none, .mv false (.t 23)⟩]
theorem carry_Grip_r3_d : drawC [0, 1, 0, 4, 12, 28, 63, 127, 255, 255, 0, 1535, 4095] [
  ⟨some 15, none, .fieldAddr 12 (.t 2)⟩,
  ⟨some 16, none, .load false true 6 (.t 15)⟩,
  ⟨some 17, none, .fieldAddr 6 (.t 3)⟩,
  ⟨some 18, none, .fieldAddr 1 (.t 17)⟩,
  ⟨some 19, none, .load false true 3 (.t 18)⟩,
  ⟨some 20, none, .call true 66 [(.t 19)]⟩,
  ⟨some 21, none, .call true 106 [(.t 16), (.t 20)]⟩,
  ⟨some 14, none, .mv false (.t 21)⟩,
  ⟨some 22, none, .extract 0 (.t 14)⟩,
  ⟨some 23, none, .extract 1 (.t 14)⟩,
  ⟨some 6, none, .alloc [.bool false, .str [], .str [], .bool false, .str [], .str []]⟩,
  ⟨none, none, .store 6 (.t 6) (.t 22)⟩,
  ⟨some 7, none, .mv false (.t 23)⟩] = false ∧ drawW [0, 1, 0, 4, 12, 28, 63, 127, 255, 255, 0, 1535, 4095] [
  ⟨some 15, none, .fieldAddr 12 (.t 2)⟩,
  ⟨some 16, none, .load false true 6 (.t 15)⟩,
  ⟨some 17, none, .fieldAddr 6 (.t 3)⟩,
  ⟨some 18, none, .fieldAddr 1 (.t 17)⟩,
  ⟨some 19, none, .load false true 3 (.t 18)⟩,
  ⟨some 20, none, .call true 66 [(.t 19)]⟩,
  ⟨some 21, none, .call true 106 [(.t 16), (.t 20)]⟩,
  ⟨some 14, none, .mv false (.t 21)⟩,
  ⟨some 22, none, .extract 0 (.t 14)⟩,
  ⟨some 23, none, .extract 1 (.t 14)⟩,
  ⟨some 6, none, .alloc [.bool false, .str [], .str [], .bool false, .str [], .str []]⟩,
  ⟨none, none, .store 6 (.t 6) (.t 22)⟩,
  ⟨some 7, none, .mv false (.t 23)⟩] = true := ⟨by kernel_rfl, by kernel_rfl⟩
def carry_Grip_r4 : List LOper := [
  ⟨some 24, none, .mv false (.t 7)⟩,
  ⟨some 25, none, .bin .neq (.t 24) (.c (.int .i64 0))⟩]
def carry_Grip_r5 : List LOper := [
  ⟨some 26, none, .build [.bool false, .str [], .str [], .bool false, .str [], .str [], .bool false, .str [], .str [], .bool false, .str [], .str [], .bool false, .str [], .str [], .bool false, .str [], .str []] []⟩,
  ⟨some 27, none, .mv false (.t 7)⟩,
  ⟨none, none, .store 18 (.t 4) (.t 26)⟩,
  ⟨some 5, none, .mv false (.t 27)⟩]
def carry_Grip_r6 : List LOper := [
  ⟨some 29, none, .fieldAddr 0 (.t 2)⟩,
  ⟨some 30, none, .load false true 6 (.t 29)⟩,
  ⟨some 31, none, .fieldAddr 0 (.t 3)⟩,
  ⟨some 32, none, .fieldAddr 0 (.t 31)⟩,
  ⟨some 33, none, .load false true 3 (.t 32)⟩,
  ⟨some 34, none, .call true 86 [(.t 33)]⟩,
  ⟨some 35, none, .call true 88 [(.t 30), (.t 34)]⟩,
  ⟨some 36, none, .fieldAddr 6 (.t 2)⟩,
  ⟨some 37, none, .load false true 6 (.t 36)⟩,
  ⟨some 38, none, .fieldAddr 0 (.t 3)⟩,
  ⟨some 39, none, .fieldAddr 3 (.t 38)⟩,
  ⟨some 40, none, .load false true 3 (.t 39)⟩,
  ⟨some 41, none, .call true 86 [(.t 40)]⟩,
  ⟨some 42, none, .call true 88 [(.t 37), (.t 41)]⟩,
  ⟨some 43, none, .fieldAddr 6 (.t 3)⟩,
  ⟨some 44, none, .load false true 4 (.t 43)⟩,
  ⟨some 45, none, .call true 103 [(.t 44)]⟩,
  ⟨some 46, none, .call true 107 [(.t 35), (.t 42), (.t 45)]⟩,
  ⟨some 28, none, .mv false (.t 46)⟩,
  ⟨some 47, none, .extract 0 (.t 28)⟩,
  ⟨some 48, none, .extract 1 (.t 28)⟩,
  ⟨some 8, none, .alloc [.bool false, .str [], .str [], .bool false, .str [], .str []]⟩,
  ⟨some 9, none, .alloc [.bool false, .str [], .str [], .bool false, .str [], .str []]⟩,
  ⟨none, none, .store 6 (.t 8) (.t 47)⟩,
  ⟨none, none, .store 6 (.t 9) (.t 48)⟩]
theorem carry_Grip_r6_d : drawC [0, 1, 0, 4, 12, 28, 63, 0, 128, 0, 512, 1536, 3711, 8191, 0, 16384, 65535, 131071, 262143, 524287, 524287, 0, 0, 7340031, 16777215] [
  ⟨some 29, none, .fieldAddr 0 (.t 2)⟩,
  ⟨some 30, none, .load false true 6 (.t 29)⟩,
  ⟨some 31, none, .fieldAddr 0 (.t 3)⟩,
  ⟨some 32, none, .fieldAddr 0 (.t 31)⟩,
  ⟨some 33, none, .load false true 3 (.t 32)⟩,
  ⟨some 34, none, .call true 86 [(.t 33)]⟩,
  ⟨some 35, none, .call true 88 [(.t 30), (.t 34)]⟩,
  ⟨some 36, none, .fieldAddr 6 (.t 2)⟩,
  ⟨some 37, none, .load false true 6 (.t 36)⟩,
  ⟨some 38, none, .fieldAddr 0 (.t 3)⟩,
  ⟨some 39, none, .fieldAddr 3 (.t 38)⟩,
  ⟨some 40, none, .load false true 3 (.t 39)⟩,
  ⟨some 41, none, .call true 86 [(.t 40)]⟩,
  ⟨some 42, none, .call true 88 [(.t 37), (.t 41)]⟩,
  ⟨some 43, none, .fieldAddr 6 (.t 3)⟩,
  ⟨some 44, none, .load false true 4 (.t 43)⟩,
  ⟨some 45, none, .call true 103 [(.t 44)]⟩,
  ⟨some 46, none, .call true 107 [(.t 35), (.t 42), (.t 45)]⟩,
  ⟨some 28, none, .mv false (.t 46)⟩,
  ⟨some 47, none, .extract 0 (.t 28)⟩,
  ⟨some 48, none, .extract 1 (.t 28)⟩,
  ⟨some 8, none, .alloc [.bool false, .str [], .str [], .bool false, .str [], .str []]⟩,
  ⟨some 9, none, .alloc [.bool false, .str [], .str [], .bool false, .str [], .str []]⟩,
  ⟨none, none, .store 6 (.t 8) (.t 47)⟩,
  ⟨none, none, .store 6 (.t 9) (.t 48)⟩] = false ∧ drawW [0, 1, 0, 4, 12, 28, 63, 0, 128, 0, 512, 1536, 3711, 8191, 0, 16384, 65535, 131071, 262143, 524287, 524287, 0, 0, 7340031, 16777215] [
  ⟨some 29, none, .fieldAddr 0 (.t 2)⟩,
  ⟨some 30, none, .load false true 6 (.t 29)⟩,
  ⟨some 31, none, .fieldAddr 0 (.t 3)⟩,
  ⟨some 32, none, .fieldAddr 0 (.t 31)⟩,
  ⟨some 33, none, .load false true 3 (.t 32)⟩,
  ⟨some 34, none, .call true 86 [(.t 33)]⟩,
  ⟨some 35, none, .call true 88 [(.t 30), (.t 34)]⟩,
  ⟨some 36, none, .fieldAddr 6 (.t 2)⟩,
  ⟨some 37, none, .load false true 6 (.t 36)⟩,
  ⟨some 38, none, .fieldAddr 0 (.t 3)⟩,
  ⟨some 39, none, .fieldAddr 3 (.t 38)⟩,
  ⟨some 40, none, .load false true 3 (.t 39)⟩,
  ⟨some 41, none, .call true 86 [(.t 40)]⟩,
  ⟨some 42, none, .call true 88 [(.t 37), (.t 41)]⟩,
  ⟨some 43, none, .fieldAddr 6 (.t 3)⟩,
  ⟨some 44, none, .load false true 4 (.t 43)⟩,
  ⟨some 45, none, .call true 103 [(.t 44)]⟩,
  ⟨some 46, none, .call true 107 [(.t 35), (.t 42), (.t 45)]⟩,
  ⟨some 28, none, .mv false (.t 46)⟩,
  ⟨some 47, none, .extract 0 (.t 28)⟩,
  ⟨some 48, none, .extract 1 (.t 28)⟩,
  ⟨some 8, none, .alloc [.bool false, .str [], .str [], .bool false, .str [], .str []]⟩,
  ⟨some 9, none, .alloc [.bool false, .str [], .str [], .bool false, .str [], .str []]⟩,
  ⟨none, none, .store 6 (.t 8) (.t 47)⟩,
  ⟨none, none, .store 6 (.t 9) (.t 48)⟩] = false ∧ isX [0, 1, 0, 4, 12, 28, 63, 0, 128, 0, 512, 1536, 3711, 8191, 0, 16384, 65535, 131071, 262143, 524287, 524287, 0, 0, 7340031, 16777215] [
  ⟨some 29, none, .fieldAddr 0 (.t 2)⟩,
  ⟨some 30, none, .load false true 6 (.t 29)⟩,
  ⟨some 31, none, .fieldAddr 0 (.t 3)⟩,
  ⟨some 32, none, .fieldAddr 0 (.t 31)⟩,
  ⟨some 33, none, .load false true 3 (.t 32)⟩,
  ⟨some 34, none, .call true 86 [(.t 33)]⟩,
  ⟨some 35, none, .call true 88 [(.t 30), (.t 34)]⟩,
  ⟨some 36, none, .fieldAddr 6 (.t 2)⟩,
  ⟨some 37, none, .load false true 6 (.t 36)⟩,
  ⟨some 38, none, .fieldAddr 0 (.t 3)⟩,
  ⟨some 39, none, .fieldAddr 3 (.t 38)⟩,
  ⟨some 40, none, .load false true 3 (.t 39)⟩,
  ⟨some 41, none, .call true 86 [(.t 40)]⟩,
  ⟨some 42, none, .call true 88 [(.t 37), (.t 41)]⟩,
  ⟨some 43, none, .fieldAddr 6 (.t 3)⟩,
  ⟨some 44, none, .load false true 4 (.t 43)⟩,
  ⟨some 45, none, .call true 103 [(.t 44)]⟩,
  ⟨some 46, none, .call true 107 [(.t 35), (.t 42), (.t 45)]⟩,
  ⟨some 28, none, .mv false (.t 46)⟩,
  ⟨some 47, none, .extract 0 (.t 28)⟩,
  ⟨some 48, none, .extract 1 (.t 28)⟩,
  ⟨some 8, none, .alloc [.bool false, .str [], .str [], .bool false, .str [], .str []]⟩,
  ⟨some 9, none, .alloc [.bool false, .str [], .str [], .bool false, .str [], .str []]⟩,
  ⟨none, none, .store 6 (.t 8) (.t 47)⟩,
  ⟨none, none, .store 6 (.t 9) (.t 48)⟩] = false ∧ allocPair [0, 1, 0, 4, 12, 28, 63, 0, 128, 0, 512, 1536, 3711, 8191, 0, 16384, 65535, 131071, 262143, 524287, 524287, 0, 0, 7340031, 16777215] [
  ⟨some 29, none, .fieldAddr 0 (.t 2)⟩,
  ⟨some 30, none, .load false true 6 (.t 29)⟩,
  ⟨some 31, none, .fieldAddr 0 (.t 3)⟩,
  ⟨some 32, none, .fieldAddr 0 (.t 31)⟩,
  ⟨some 33, none, .load false true 3 (.t 32)⟩,
  ⟨some 34, none, .call true 86 [(.t 33)]⟩,
  ⟨some 35, none, .call true 88 [(.t 30), (.t 34)]⟩,
  ⟨some 36, none, .fieldAddr 6 (.t 2)⟩,
  ⟨some 37, none, .load false true 6 (.t 36)⟩,
  ⟨some 38, none, .fieldAddr 0 (.t 3)⟩,
  ⟨some 39, none, .fieldAddr 3 (.t 38)⟩,
  ⟨some 40, none, .load false true 3 (.t 39)⟩,
  ⟨some 41, none, .call true 86 [(.t 40)]⟩,
  ⟨some 42, none, .call true 88 [(.t 37), (.t 41)]⟩,
  ⟨some 43, none, .fieldAddr 6 (.t 3)⟩,
  ⟨some 44, none, .load false true 4 (.t 43)⟩,
  ⟨some 45, none, .call true 103 [(.t 44)]⟩,
  ⟨some 46, none, .call true 107 [(.t 35), (.t 42), (.t 45)]⟩,
  ⟨some 28, none, .mv false (.t 46)⟩,
  ⟨some 47, none, .extract 0 (.t 28)⟩,
  ⟨some 48, none, .extract 1 (.t 28)⟩,
  ⟨some 8, none, .alloc [.bool false, .str [], .str [], .bool false, .str [], .str []]⟩,
  ⟨some 9, none, .alloc [.bool false, .str [], .str [], .bool false, .str [], .str []]⟩,
  ⟨none, none, .store 6 (.t 8) (.t 47)⟩,
  ⟨none, none, .store 6 (.t 9) (.t 48)⟩] = some (21, 22) ∧ drawY [0, 1, 0, 4, 12, 28, 63, 0, 128, 0, 512, 1536, 3711, 8191, 0, 16384, 65535, 131071, 262143, 524287, 524287, 0, 0, 7340031, 16777215] [
  ⟨some 29, none, .fieldAddr 0 (.t 2)⟩,
  ⟨some 30, none, .load false true 6 (.t 29)⟩,
  ⟨some 31, none, .fieldAddr 0 (.t 3)⟩,
  ⟨some 32, none, .fieldAddr 0 (.t 31)⟩,
  ⟨some 33, none, .load false true 3 (.t 32)⟩,
  ⟨some 34, none, .call true 86 [(.t 33)]⟩,
  ⟨some 35, none, .call true 88 [(.t 30), (.t 34)]⟩,
  ⟨some 36, none, .fieldAddr 6 (.t 2)⟩,
  ⟨some 37, none, .load false true 6 (.t 36)⟩,
  ⟨some 38, none, .fieldAddr 0 (.t 3)⟩,
  ⟨some 39, none, .fieldAddr 3 (.t 38)⟩,
  ⟨some 40, none, .load false true 3 (.t 39)⟩,
  ⟨some 41, none, .call true 86 [(.t 40)]⟩,
  ⟨some 42, none, .call true 88 [(.t 37), (.t 41)]⟩,
  ⟨some 43, none, .fieldAddr 6 (.t 3)⟩,
  ⟨some 44, none, .load false true 4 (.t 43)⟩,
  ⟨some 45, none, .call true 103 [(.t 44)]⟩,
  ⟨some 46, none, .call true 107 [(.t 35), (.t 42), (.t 45)]⟩,
  ⟨some 28, none, .mv false (.t 46)⟩,
  ⟨some 47, none, .extract 0 (.t 28)⟩,
  ⟨some 48, none, .extract 1 (.t 28)⟩,
  ⟨some 8, none, .alloc [.bool false, .str [], .str [], .bool false, .str [], .str []]⟩,
  ⟨some 9, none, .alloc [.bool false, .str [], .str [], .bool false, .str [], .str []]⟩,
  ⟨none, none, .store 6 (.t 8) (.t 47)⟩,
  ⟨none, none, .store 6 (.t 9) (.t 48)⟩] 21 22 = true ∧ moveTo 21 22 [
  ⟨some 29, none, .fieldAddr 0 (.t 2)⟩,
  ⟨some 30, none, .load false true 6 (.t 29)⟩,
  ⟨some 31, none, .fieldAddr 0 (.t 3)⟩,
  ⟨some 32, none, .fieldAddr 0 (.t 31)⟩,
  ⟨some 33, none, .load false true 3 (.t 32)⟩,
  ⟨some 34, none, .call true 86 [(.t 33)]⟩,
  ⟨some 35, none, .call true 88 [(.t 30), (.t 34)]⟩,
  ⟨some 36, none, .fieldAddr 6 (.t 2)⟩,
  ⟨some 37, none, .load false true 6 (.t 36)⟩,
  ⟨some 38, none, .fieldAddr 0 (.t 3)⟩,
  ⟨some 39, none, .fieldAddr 3 (.t 38)⟩,
  ⟨some 40, none, .load false true 3 (.t 39)⟩,
  ⟨some 41, none, .call true 86 [(.t 40)]⟩,
  ⟨some 42, none, .call true 88 [(.t 37), (.t 41)]⟩,
  ⟨some 43, none, .fieldAddr 6 (.t 3)⟩,
  ⟨some 44, none, .load false true 4 (.t 43)⟩,
  ⟨some 45, none, .call true 103 [(.t 44)]⟩,
  ⟨some 46, none, .call true 107 [(.t 35), (.t 42), (.t 45)]⟩,
  ⟨some 28, none, .mv false (.t 46)⟩,
  ⟨some 47, none, .extract 0 (.t 28)⟩,
  ⟨some 48, none, .extract 1 (.t 28)⟩,
  ⟨some 8, none, .alloc [.bool false, .str [], .str [], .bool false, .str [], .str []]⟩,
  ⟨some 9, none, .alloc [.bool false, .str [], .str [], .bool false, .str [], .str []]⟩,
  ⟨none, none, .store 6 (.t 8) (.t 47)⟩,
  ⟨none, none, .store 6 (.t 9) (.t 48)⟩] = [
  ⟨some 29, none, .fieldAddr 0 (.t 2)⟩,
  ⟨some 30, none, .load false true 6 (.t 29)⟩,
  ⟨some 31, none, .fieldAddr 0 (.t 3)⟩,
  ⟨some 32, none, .fieldAddr 0 (.t 31)⟩,
  ⟨some 33, none, .load false true 3 (.t 32)⟩,
  ⟨some 34, none, .call true 86 [(.t 33)]⟩,
  ⟨some 35, none, .call true 88 [(.t 30), (.t 34)]⟩,
  ⟨some 36, none, .fieldAddr 6 (.t 2)⟩,
  ⟨some 37, none, .load false true 6 (.t 36)⟩,
  ⟨some 38, none, .fieldAddr 0 (.t 3)⟩,
  ⟨some 39, none, .fieldAddr 3 (.t 38)⟩,
  ⟨some 40, none, .load false true 3 (.t 39)⟩,
  ⟨some 41, none, .call true 86 [(.t 40)]⟩,
  ⟨some 42, none, .call true 88 [(.t 37), (.t 41)]⟩,
  ⟨some 43, none, .fieldAddr 6 (.t 3)⟩,
  ⟨some 44, none, .load false true 4 (.t 43)⟩,
  ⟨some 45, none, .call true 103 [(.t 44)]⟩,
  ⟨some 46, none, .call true 107 [(.t 35), (.t 42), (.t 45)]⟩,
  ⟨some 28, none, .mv false (.t 46)⟩,
  ⟨some 47, none, .extract 0 (.t 28)⟩,
  ⟨some 48, none, .extract 1 (.t 28)⟩,
  ⟨some 9, none, .alloc [.bool false, .str [], .str [], .bool false, .str [], .str []]⟩,
  ⟨some 8, none, .alloc [.bool false, .str [], .str [], .bool false, .str [], .str []]⟩,
  ⟨none, none, .store 6 (.t 8) (.t 47)⟩,
  ⟨none, none, .store 6 (.t 9) (.t 48)⟩] := ⟨by kernel_rfl, by kernel_rfl, by kernel_rfl, by kernel_rfl, by kernel_rfl, by kernel_rfl⟩
def carry_Grip_r7 : List LOper := [
  ⟨some 49, none, .load false true 6 (.t 8)⟩,
  ⟨some 50, none, .load false true 6 (.t 9)⟩,
  ⟨some 51, none, .load false true 6 (.t 6)⟩,
  ⟨some 52, none, .build [.bool false, .str [], .str [], .bool false, .str [], .str [], .bool false, .str [], .str [], .bool false, .str [], .str [], .bool false, .str [], .str [], .bool false, .str [], .str []] [(0, 6, (.t 49)), (6, 6, (.t 50)), (12, 6, (.t 51))]⟩,
  ⟨none, none, .store 18 (.t 4) (.t 52)⟩,
  ⟨some 5, none, .mv false (.c (.int .i64 0))⟩]
def carry_Grip_f : LFunc := ⟨53, 2, [.cell 4 true 18, .tmp 5], (.seq (.ops carry_Grip_r0) (.seq (.seq (.ops carry_Grip_r1) (.cond (.t 12) (.seq (.ops carry_Grip_r2) .ret) .skip)) (.seq (.dops [0, 1, 0, 4, 12, 28, 63, 127, 255, 255, 0, 1535, 4095] carry_Grip_r3) (.seq (.seq (.ops carry_Grip_r4) (.cond (.t 25) (.seq (.ops carry_Grip_r5) .ret) .skip)) (.seq (.dops [0, 1, 0, 4, 12, 28, 63, 0, 128, 0, 512, 1536, 3711, 8191, 0, 16384, 65535, 131071, 262143, 524287, 524287, 0, 0, 7340031, 16777215] carry_Grip_r6) (.seq (.ops carry_Grip_r7) .ret))))))⟩
def carry_Grip_v : VFunc := ⟨carry_Grip_f, true, false, false⟩
theorem carry_Grip_ok : preFunc Tryd.prog ⟨[], [], [20, 21, 34, 35, 41, 42, 45, 46]⟩ Tryd.f51 [] = some carry_Grip_f := by kernel_rfl

-- gantry/gantkeep4.Pose$1
def gantkeep4_Pose_1_r0 : List LOper := [
  ⟨some 3, none, .alloc [.bool false, .str [], .str [], .bool false, .str [], .str []]⟩]
def gantkeep4_Pose_1_r1 : List LOper := [
  ⟨some 5, none, .load false false 1 (.t 1)⟩,
  ⟨some 6, none, .mv false (.t 0)⟩,
  ⟨some 7, none, .bin .mul (.c (.int .i64 2)) (.t 6)⟩,
  ⟨some 8, none, .bin .add (.t 7) (.c (.int .i64 1))⟩,
  ⟨some 9, none, .call false 58 [(.t 5), (.t 8)]⟩,
  ⟨some 10, none, .mv false (.t 0)⟩,
  ⟨some 11, none, .bin .sub (.t 9) (.t 10)⟩,
  ⟨some 4, none, .mv false (.t 11)⟩]
def gantkeep4_Pose_1_r2 : List LOper := [
  ⟨some 12, none, .mv false (.t 4)⟩,
  ⟨some 13, none, .call true 20 [(.t 12), (.c (.int .i64 4))]⟩,
  ⟨some 14, none, .mv false (.t 4)⟩,
  ⟨some 15, none, .load false false 1 (.t 1)⟩,
  ⟨some 16, none, .call false 58 [(.t 15), (.c (.int .i64 7))]⟩,
  ⟨some 17, none, .bin .add (.t 14) (.t 16)⟩,
  ⟨some 18, none, .call true 20 [(.t 17), (.c (.int .i64 4))]⟩,
  ⟨some 19, none, .build [.bool false, .str [], .str [], .bool false, .str [], .str []] [(0, 3, (.t 13)), (3, 3, (.t 18))]⟩,
  ⟨none, none, .store 6 (.t 3) (.t 19)⟩]
theorem gantkeep4_Pose_1_r2_d : drawC [0, 1, 0, 0, 11, 31, 63, 127, 255] [
  ⟨some 12, none, .mv false (.t 4)⟩,
  ⟨some 13, none, .call true 20 [(.t 12), (.c (.int .i64 4))]⟩,
  ⟨some 14, none, .mv false (.t 4)⟩,
  ⟨some 15, none, .load false false 1 (.t 1)⟩,
  ⟨some 16, none, .call false 58 [(.t 15), (.c (.int .i64 7))]⟩,
  ⟨some 17, none, .bin .add (.t 14) (.t 16)⟩,
  ⟨some 18, none, .call true 20 [(.t 17), (.c (.int .i64 4))]⟩,
  ⟨some 19, none, .build [.bool false, .str [], .str [], .bool false, .str [], .str []] [(0, 3, (.t 13)), (3, 3, (.t 18))]⟩,
  ⟨none, none, .store 6 (.t 3) (.t 19)⟩] = true := by kernel_rfl
def gantkeep4_Pose_1_f : LFunc := ⟨20, 2, [.cell 3 true 6], (.seq (.ops gantkeep4_Pose_1_r0) (.seq (.ops gantkeep4_Pose_1_r1) (.seq (.dops [0, 1, 0, 0, 11, 31, 63, 127, 255] gantkeep4_Pose_1_r2) .ret)))⟩
def gantkeep4_Pose_1_v : VFunc := ⟨gantkeep4_Pose_1_f, false, false, false⟩
theorem gantkeep4_Pose_1_ok : preFunc Tryd.prog ⟨[], [], [13, 18]⟩ Tryd.f57 [] = some gantkeep4_Pose_1_f := by kernel_rfl

-- (*gantry/gantmake.Stream).Next
def gantmake_Stream_Next_r0 : List LOper := [
  ⟨some 4, none, .mv false (.c (.int .i64 0))⟩]
def gantmake_Stream_Next_r1 : List LOper := [
  ⟨some 6, none, .mv false (.t 0)⟩,
  ⟨some 7, none, .nilchk (.t 6)⟩,
  ⟨some 8, none, .fieldAddr 0 (.t 7)⟩,
  ⟨some 9, none, .load false false 1 (.t 8)⟩,
  ⟨some 10, none, .lenL (.t 9)⟩,
  ⟨some 11, none, .bin .eql (.t 10) (.c (.int .i64 0))⟩,
  ⟨some 12, none, .mv false (.t 11)⟩,
  ⟨some 13, some (12, false), .mv false (.t 1)⟩,
  ⟨some 14, some (12, false), .bin .lss (.t 13) (.c (.int .i64 1))⟩,
  ⟨some 15, none, .pick (.t 12) (.c (.bool true)) (.t 14)⟩]
def gantmake_Stream_Next_r2 : List LOper := [
  ⟨some 4, none, .mv false (.c (.int .i64 0))⟩]
def gantmake_Stream_Next_r3 : List LOper := [
  ⟨some 16, none, .mv false (.t 0)⟩,
  ⟨some 17, none, .nilchk (.t 16)⟩,
  ⟨some 18, none, .fieldAddr 0 (.t 17)⟩,
  ⟨some 19, none, .load false false 1 (.t 18)⟩,
  ⟨some 20, none, .indexAddr 1 (.t 19) (.c (.int .i64 0))⟩,
  ⟨some 21, none, .load false false 1 (.t 20)⟩,
  ⟨some 5, none, .mv false (.t 21)⟩]
def gantmake_Stream_Next_r4 : List LOper := [
  ⟨some 22, none, .mv false (.t 0)⟩,
  ⟨some 23, none, .mv false (.t 0)⟩,
  ⟨some 24, none, .nilchk (.t 23)⟩,
  ⟨some 25, none, .fieldAddr 0 (.t 24)⟩,
  ⟨some 26, none, .load false false 1 (.t 25)⟩,
  ⟨some 27, none, .slc 1 (.t 26) (some (.c (.int .i64 1))) none none⟩,
  ⟨some 28, none, .nilchk (.t 22)⟩,
  ⟨some 29, none, .fieldAddr 0 (.t 28)⟩,
  ⟨none, none, .store 1 (.t 29) (.t 27)⟩]
def gantmake_Stream_Next_r5 : List LOper := [
  ⟨some 30, none, .mv false (.t 5)⟩,
  ⟨some 31, none, .mv false (.t 1)⟩,
  ⟨some 32, none, .call false 21 [(.t 30), (.t 31)]⟩,
  ⟨some 4, none, .mv false (.t 32)⟩]
def gantmake_Stream_Next_f : LFunc := ⟨33, 2, [.tmp 4], (.seq (.ops gantmake_Stream_Next_r0) (.seq (.seq (.ops gantmake_Stream_Next_r1) (.cond (.t 15) (.seq (.ops gantmake_Stream_Next_r2) .ret) .skip)) (.seq (.ops gantmake_Stream_Next_r3) (.seq (.ops gantmake_Stream_Next_r4) (.seq (.ops gantmake_Stream_Next_r5) .ret)))))⟩
def gantmake_Stream_Next_v : VFunc := ⟨gantmake_Stream_Next_f, false, false, false⟩
theorem gantmake_Stream_Next_ok : preFunc Tryd.prog ⟨[], [], []⟩ Tryd.f58 [] = some gantmake_Stream_Next_f := by kernel_rfl

-- gantry/see.meet
def see_meet_r0 : List LOper := [
  ⟨some 2, none, .box (.t 0)⟩,
  ⟨some 3, none, .box (.t 1)⟩,
  ⟨some 4, none, .alloc [.bool false, .str [], .str [], .bool false, .str [], .str []]⟩,
  ⟨some 5, none, .mv false (.c (.bool false))⟩]
def see_meet_r1 : List LOper := [
  ⟨some 7, none, .load false true 6 (.t 2)⟩,
  ⟨some 8, none, .call true 75 [(.t 7)]⟩,
  ⟨some 9, none, .load false true 6 (.t 3)⟩,
  ⟨some 10, none, .call true 75 [(.t 9)]⟩,
  ⟨none, none, .store 6 (.t 2) (.t 8)⟩,
  ⟨none, none, .store 6 (.t 3) (.t 10)⟩]
theorem see_meet_r1_d : drawC [0, 1, 0, 7, 15, 31] [
  ⟨some 7, none, .load false true 6 (.t 2)⟩,
  ⟨some 8, none, .call true 75 [(.t 7)]⟩,
  ⟨some 9, none, .load false true 6 (.t 3)⟩,
  ⟨some 10, none, .call true 75 [(.t 9)]⟩,
  ⟨none, none, .store 6 (.t 2) (.t 8)⟩,
  ⟨none, none, .store 6 (.t 3) (.t 10)⟩] = true := by kernel_rfl
def see_meet_r2 : List LOper := [
  ⟨some 11, none, .fieldAddr 0 (.t 2)⟩,
  ⟨some 12, none, .load false true 3 (.t 11)⟩,
  ⟨some 13, none, .fieldAddr 0 (.t 3)⟩,
  ⟨some 14, none, .load false true 3 (.t 13)⟩,
  ⟨some 15, none, .call true 71 [(.t 12), (.t 14)]⟩,
  ⟨some 16, none, .fieldAddr 3 (.t 2)⟩,
  ⟨some 17, none, .load false true 3 (.t 16)⟩,
  ⟨some 18, none, .fieldAddr 3 (.t 3)⟩,
  ⟨some 19, none, .load false true 3 (.t 18)⟩,
  ⟨some 20, none, .call true 83 [(.t 17), (.t 19)]⟩,
  ⟨some 21, none, .build [.bool false, .str [], .str [], .bool false, .str [], .str []] [(0, 3, (.t 15)), (3, 3, (.t 20))]⟩,
  ⟨some 6, none, .alloc [.bool false, .str [], .str [], .bool false, .str [], .str []]⟩,
  ⟨none, none, .store 6 (.t 6) (.t 21)⟩]
theorem see_meet_r2_d : drawC [0, 1, 0, 4, 15, 0, 32, 0, 128, 511, 1023, 0, 4095] [
  ⟨some 11, none, .fieldAddr 0 (.t 2)⟩,
  ⟨some 12, none, .load false true 3 (.t 11)⟩,
  ⟨some 13, none, .fieldAddr 0 (.t 3)⟩,
  ⟨some 14, none, .load false true 3 (.t 13)⟩,
  ⟨some 15, none, .call true 71 [(.t 12), (.t 14)]⟩,
  ⟨some 16, none, .fieldAddr 3 (.t 2)⟩,
  ⟨some 17, none, .load false true 3 (.t 16)⟩,
  ⟨some 18, none, .fieldAddr 3 (.t 3)⟩,
  ⟨some 19, none, .load false true 3 (.t 18)⟩,
  ⟨some 20, none, .call true 83 [(.t 17), (.t 19)]⟩,
  ⟨some 21, none, .build [.bool false, .str [], .str [], .bool false, .str [], .str []] [(0, 3, (.t 15)), (3, 3, (.t 20))]⟩,
  ⟨some 6, none, .alloc [.bool false, .str [], .str [], .bool false, .str [], .str []]⟩,
  ⟨none, none, .store 6 (.t 6) (.t 21)⟩] = false ∧ drawW [0, 1, 0, 4, 15, 0, 32, 0, 128, 511, 1023, 0, 4095] [
  ⟨some 11, none, .fieldAddr 0 (.t 2)⟩,
  ⟨some 12, none, .load false true 3 (.t 11)⟩,
  ⟨some 13, none, .fieldAddr 0 (.t 3)⟩,
  ⟨some 14, none, .load false true 3 (.t 13)⟩,
  ⟨some 15, none, .call true 71 [(.t 12), (.t 14)]⟩,
  ⟨some 16, none, .fieldAddr 3 (.t 2)⟩,
  ⟨some 17, none, .load false true 3 (.t 16)⟩,
  ⟨some 18, none, .fieldAddr 3 (.t 3)⟩,
  ⟨some 19, none, .load false true 3 (.t 18)⟩,
  ⟨some 20, none, .call true 83 [(.t 17), (.t 19)]⟩,
  ⟨some 21, none, .build [.bool false, .str [], .str [], .bool false, .str [], .str []] [(0, 3, (.t 15)), (3, 3, (.t 20))]⟩,
  ⟨some 6, none, .alloc [.bool false, .str [], .str [], .bool false, .str [], .str []]⟩,
  ⟨none, none, .store 6 (.t 6) (.t 21)⟩] = true := ⟨by kernel_rfl, by kernel_rfl⟩
def see_meet_r3 : List LOper := [
  ⟨some 22, none, .load false true 6 (.t 6)⟩,
  ⟨some 23, none, .fieldAddr 0 (.t 6)⟩,
  ⟨some 24, none, .load false true 3 (.t 23)⟩,
  ⟨some 25, none, .fieldAddr 3 (.t 6)⟩,
  ⟨some 26, none, .load false true 3 (.t 25)⟩,
  ⟨some 27, none, .call true 26 [(.t 24), (.t 26)]⟩,
  ⟨some 28, none, .bin .leq (.t 27) (.c (.int .i64 0))⟩,
  ⟨none, none, .store 6 (.t 4) (.t 22)⟩,
  ⟨some 5, none, .mv false (.t 28)⟩]
theorem see_meet_r3_d : drawC [0, 0, 2, 0, 8, 30, 62, 63, 255] [
  ⟨some 22, none, .load false true 6 (.t 6)⟩,
  ⟨some 23, none, .fieldAddr 0 (.t 6)⟩,
  ⟨some 24, none, .load false true 3 (.t 23)⟩,
  ⟨some 25, none, .fieldAddr 3 (.t 6)⟩,
  ⟨some 26, none, .load false true 3 (.t 25)⟩,
  ⟨some 27, none, .call true 26 [(.t 24), (.t 26)]⟩,
  ⟨some 28, none, .bin .leq (.t 27) (.c (.int .i64 0))⟩,
  ⟨none, none, .store 6 (.t 4) (.t 22)⟩,
  ⟨some 5, none, .mv false (.t 28)⟩] = true := by kernel_rfl
def see_meet_f : LFunc := ⟨29, 2, [.cell 4 true 6, .tmp 5], (.seq (.ops see_meet_r0) (.seq (.dops [0, 1, 0, 7, 15, 31] see_meet_r1) (.seq (.dops [0, 1, 0, 4, 15, 0, 32, 0, 128, 511, 1023, 0, 4095] see_meet_r2) (.seq (.dops [0, 0, 2, 0, 8, 30, 62, 63, 255] see_meet_r3) .ret))))⟩
def see_meet_v : VFunc := ⟨see_meet_f, true, false, false⟩
theorem see_meet_ok : preFunc Tryd.prog ⟨[], [], [8, 10, 15, 20, 27]⟩ Tryd.f61 [] = some see_meet_f := by kernel_rfl

-- gantry/see.Of
def see_Of_r0 : List LOper := [
  ⟨some 1, none, .box (.t 0)⟩,
  ⟨some 2, none, .alloc [.bool false, .str [], .str [], .bool false, .str [], .str [], .bool false, .str [], .str [], .bool false, .str [], .str [], .bool false, .str [], .str [], .bool false, .str [], .str []]⟩,
  ⟨some 3, none, .mv false (.c (.int .i64 0))⟩]
def see_Of_r1 : List LOper := [
  ⟨some 4, none, .fieldAddr 6 (.t 1)⟩,
  ⟨some 5, none, .fieldAddr 0 (.t 4)⟩,
  ⟨some 6, none, .load false false 1 (.t 5)⟩]
def see_Of_r2 : List LOper := [
  ⟨some 7, none, .build [.bool false, .str [], .str [], .bool false, .str [], .str [], .bool false, .str [], .str [], .bool false, .str [], .str [], .bool false, .str [], .str [], .bool false, .str [], .str []] []⟩,
  ⟨none, none, .store 18 (.t 2) (.t 7)⟩,
  ⟨some 3, none, .mv false (.c (.int .i64 3))⟩]
def see_Of_r3 : List LOper := [
  ⟨some 8, none, .fieldAddr 0 (.t 1)⟩,
  ⟨some 9, none, .fieldAddr 0 (.t 8)⟩,
  ⟨some 10, none, .load false true 3 (.t 9)⟩,
  ⟨some 11, none, .call true 86 [(.t 10)]⟩,
  ⟨some 12, none, .fieldAddr 0 (.t 1)⟩,
  ⟨some 13, none, .fieldAddr 3 (.t 12)⟩,
  ⟨some 14, none, .load false true 3 (.t 13)⟩,
  ⟨some 15, none, .call true 86 [(.t 14)]⟩,
  ⟨some 16, none, .fieldAddr 6 (.t 1)⟩,
  ⟨some 17, none, .fieldAddr 1 (.t 16)⟩,
  ⟨some 18, none, .load false true 3 (.t 17)⟩,
  ⟨some 19, none, .call true 86 [(.t 18)]⟩,
  ⟨some 20, none, .build [.bool false, .str [], .str [], .bool false, .str [], .str [], .bool false, .str [], .str [], .bool false, .str [], .str [], .bool false, .str [], .str [], .bool false, .str [], .str []] [(0, 6, (.t 11)), (6, 6, (.t 15)), (12, 6, (.t 19))]⟩,
  ⟨none, none, .store 18 (.t 2) (.t 20)⟩,
  ⟨some 3, none, .mv false (.c (.int .i64 0))⟩]
theorem see_Of_r3_d : drawC [0, 1, 3, 7, 0, 16, 48, 127, 0, 256, 768, 2047, 4095, 8191, 16383] [
  ⟨some 8, none, .fieldAddr 0 (.t 1)⟩,
  ⟨some 9, none, .fieldAddr 0 (.t 8)⟩,
  ⟨some 10, none, .load false true 3 (.t 9)⟩,
  ⟨some 11, none, .call true 86 [(.t 10)]⟩,
  ⟨some 12, none, .fieldAddr 0 (.t 1)⟩,
  ⟨some 13, none, .fieldAddr 3 (.t 12)⟩,
  ⟨some 14, none, .load false true 3 (.t 13)⟩,
  ⟨some 15, none, .call true 86 [(.t 14)]⟩,
  ⟨some 16, none, .fieldAddr 6 (.t 1)⟩,
  ⟨some 17, none, .fieldAddr 1 (.t 16)⟩,
  ⟨some 18, none, .load false true 3 (.t 17)⟩,
  ⟨some 19, none, .call true 86 [(.t 18)]⟩,
  ⟨some 20, none, .build [.bool false, .str [], .str [], .bool false, .str [], .str [], .bool false, .str [], .str [], .bool false, .str [], .str [], .bool false, .str [], .str [], .bool false, .str [], .str []] [(0, 6, (.t 11)), (6, 6, (.t 15)), (12, 6, (.t 19))]⟩,
  ⟨none, none, .store 18 (.t 2) (.t 20)⟩,
  ⟨some 3, none, .mv false (.c (.int .i64 0))⟩] = true := by kernel_rfl
def see_Of_f : LFunc := ⟨21, 1, [.cell 2 true 18, .tmp 3], (.seq (.ops see_Of_r0) (.seq (.seq (.ops see_Of_r1) (.cond (.t 6) (.seq (.ops see_Of_r2) .ret) .skip)) (.seq (.dops [0, 1, 3, 7, 0, 16, 48, 127, 0, 256, 768, 2047, 4095, 8191, 16383] see_Of_r3) .ret)))⟩
def see_Of_v : VFunc := ⟨see_Of_f, true, false, false⟩
theorem see_Of_ok : preFunc Tryd.prog ⟨[], [], [11, 15, 19]⟩ Tryd.f62 [] = some see_Of_f := by kernel_rfl

-- gantry/see.within
def see_within_r0 : List LOper := [
  ⟨some 2, none, .box (.t 0)⟩,
  ⟨some 3, none, .box (.t 1)⟩,
  ⟨some 4, none, .mv false (.c (.bool false))⟩]
def see_within_r1 : List LOper := [
  ⟨some 5, none, .load false true 6 (.t 2)⟩,
  ⟨some 6, none, .call true 75 [(.t 5)]⟩,
  ⟨some 7, none, .load false true 6 (.t 3)⟩,
  ⟨some 8, none, .call true 75 [(.t 7)]⟩,
  ⟨none, none, .store 6 (.t 2) (.t 6)⟩,
  ⟨none, none, .store 6 (.t 3) (.t 8)⟩]
theorem see_within_r1_d : drawC [0, 1, 0, 7, 15, 31] [
  ⟨some 5, none, .load false true 6 (.t 2)⟩,
  ⟨some 6, none, .call true 75 [(.t 5)]⟩,
  ⟨some 7, none, .load false true 6 (.t 3)⟩,
  ⟨some 8, none, .call true 75 [(.t 7)]⟩,
  ⟨none, none, .store 6 (.t 2) (.t 6)⟩,
  ⟨none, none, .store 6 (.t 3) (.t 8)⟩] = true := by kernel_rfl
def see_within_r2 : List LOper := [
  ⟨some 9, none, .fieldAddr 0 (.t 3)⟩,
  ⟨some 10, none, .load false true 3 (.t 9)⟩,
  ⟨some 11, none, .fieldAddr 0 (.t 2)⟩,
  ⟨some 12, none, .load false true 3 (.t 11)⟩,
  ⟨some 13, none, .call false 26 [(.t 10), (.t 12)]⟩,
  ⟨some 14, none, .bin .leq (.t 13) (.c (.int .i64 0))⟩,
  ⟨some 15, none, .mv false (.t 14)⟩,
  ⟨some 16, some (15, true), .fieldAddr 3 (.t 2)⟩,
  ⟨some 17, some (15, true), .load false true 3 (.t 16)⟩,
  ⟨some 18, some (15, true), .fieldAddr 3 (.t 3)⟩,
  ⟨some 19, some (15, true), .load false true 3 (.t 18)⟩,
  ⟨some 20, some (15, true), .call false 26 [(.t 17), (.t 19)]⟩,
  ⟨some 21, some (15, true), .bin .leq (.t 20) (.c (.int .i64 0))⟩,
  ⟨some 22, none, .pick (.t 15) (.t 21) (.c (.bool false))⟩,
  ⟨some 4, none, .mv false (.t 22)⟩]
def see_within_f : LFunc := ⟨23, 2, [.tmp 4], (.seq (.ops see_within_r0) (.seq (.dops [0, 1, 0, 7, 15, 31] see_within_r1) (.seq (.ops see_within_r2) .ret)))⟩
def see_within_v : VFunc := ⟨see_within_f, true, false, false⟩
theorem see_within_ok : preFunc Tryd.prog ⟨[], [], [6, 8]⟩ Tryd.f64 [] = some see_within_f := by kernel_rfl

-- gantry/gantmake.digits
def gantmake_digits_r0 : List LOper := [
  ⟨some 2, none, .mv false (.c (.str []))⟩]
def gantmake_digits_r1 : List LOper := [
  ⟨some 3, none, .mv true (.c (.nilslice))⟩]
def gantmake_digits_r2 : List LOper := [
  ⟨some 4, none, .mv false (.t 0)⟩,
  ⟨some 5, none, .bin .gtr (.t 4) (.c (.int .i64 0))⟩]
def gantmake_digits_r3 : List LOper := [
  ⟨some 8, none, .mv true (.t 3)⟩,
  ⟨some 9, none, .mv false (.t 0)⟩,
  ⟨some 10, none, .bin .rem (.t 9) (.c (.int .i64 256))⟩,
  ⟨some 11, none, .conv .u8 (.t 10)⟩,
  ⟨some 12, none, .bslice false 1 1 [.int .u8 0] [(0, 1, (.t 11))]⟩,
  ⟨some 13, none, .append true 1 1 (.t 8) (.t 12)⟩,
  ⟨some 3, none, .mv true (.t 13)⟩]
def gantmake_digits_r4 : List LOper := [
  ⟨some 6, none, .mv false (.t 0)⟩,
  ⟨some 7, none, .bin .quo (.t 6) (.c (.int .i64 256))⟩,
  ⟨some 0, none, .mv false (.t 7)⟩]
def gantmake_digits_b0 : LCode := (.seq (.seq (.ops gantmake_digits_r2) (.cond (.t 5) .skip (.exit 0))) (.seq (.block 1 (.ops gantmake_digits_r3)) (.ops gantmake_digits_r4)))
def gantmake_digits_r5 : List LOper := [
  ⟨some 14, none, .mv false (.t 3)⟩,
  ⟨some 15, none, .call false 114 [(.t 14)]⟩]
def gantmake_digits_r6 : List LOper := [
  ⟨some 16, none, .mv false (.t 3)⟩,
  ⟨some 17, none, .b2s (.t 16)⟩,
  ⟨some 2, none, .mv false (.t 17)⟩]
def gantmake_digits_f : LFunc := ⟨18, 1, [.tmp 2], (.seq (.ops gantmake_digits_r0) (.seq (.ops gantmake_digits_r1) (.seq (.block 0 (.loop [0, 3] gantmake_digits_b0)) (.seq (.ops gantmake_digits_r5) (.seq (.ops gantmake_digits_r6) .ret)))))⟩
def gantmake_digits_v : VFunc := ⟨gantmake_digits_f, true, false, false⟩
theorem gantmake_digits_ok : preFunc Tryd.prog ⟨[3, 8, 13], [], []⟩ Tryd.f65 [[0, 3]] = some gantmake_digits_f := by kernel_rfl

-- gantry/rat.Neg
def rat_Neg_r0 : List LOper := [
  ⟨some 1, none, .box (.t 0)⟩,
  ⟨some 2, none, .alloc [.bool false, .str [], .str []]⟩]
def rat_Neg_r1 : List LOper := [
  ⟨some 3, none, .load false true 3 (.t 1)⟩,
  ⟨some 4, none, .call false 67 [(.t 3)]⟩,
  ⟨none, none, .store 3 (.t 1) (.t 4)⟩]
def rat_Neg_r2 : List LOper := [
  ⟨some 5, none, .fieldAddr 0 (.t 1)⟩,
  ⟨some 6, none, .load false false 1 (.t 5)⟩,
  ⟨some 7, none, .un .not (.t 6)⟩,
  ⟨some 8, none, .mv false (.t 7)⟩,
  ⟨some 9, some (8, true), .fieldAddr 1 (.t 1)⟩,
  ⟨some 10, some (8, true), .load false false 1 (.t 9)⟩,
  ⟨some 11, some (8, true), .bin .neq (.t 10) (.c (.str []))⟩,
  ⟨some 12, none, .pick (.t 8) (.t 11) (.c (.bool false))⟩,
  ⟨some 13, none, .fieldAddr 0 (.t 1)⟩,
  ⟨none, none, .store 1 (.t 13) (.t 12)⟩]
def rat_Neg_r3 : List LOper := [
  ⟨some 14, none, .load false true 3 (.t 1)⟩,
  ⟨none, none, .store 3 (.t 2) (.t 14)⟩]
def rat_Neg_f : LFunc := ⟨15, 1, [.cell 2 true 3], (.seq (.ops rat_Neg_r0) (.seq (.ops rat_Neg_r1) (.seq (.ops rat_Neg_r2) (.seq (.ops rat_Neg_r3) .ret))))⟩
def rat_Neg_v : VFunc := ⟨rat_Neg_f, true, false, false⟩
theorem rat_Neg_ok : preFunc Tryd.prog ⟨[], [], []⟩ Tryd.f66 [] = some rat_Neg_f := by kernel_rfl

-- gantry/rat.fit
def rat_fit_r0 : List LOper := [
  ⟨some 1, none, .box (.t 0)⟩,
  ⟨some 2, none, .alloc [.bool false, .str [], .str []]⟩]
def rat_fit_r1 : List LOper := [
  ⟨some 3, none, .load false true 3 (.t 1)⟩,
  ⟨some 4, none, .call false 115 [(.t 3)]⟩,
  ⟨some 5, none, .un .not (.t 4)⟩]
def rat_fit_r2 : List LOper := [
  ⟨some 6, none, .call false 116 []⟩,
  ⟨none, none, .store 3 (.t 2) (.t 6)⟩]
def rat_fit_r3 : List LOper := [
  ⟨some 7, none, .load false true 3 (.t 1)⟩,
  ⟨none, none, .store 3 (.t 2) (.t 7)⟩]
def rat_fit_f : LFunc := ⟨8, 1, [.cell 2 true 3], (.seq (.ops rat_fit_r0) (.seq (.seq (.ops rat_fit_r1) (.cond (.t 5) (.seq (.ops rat_fit_r2) .ret) .skip)) (.seq (.ops rat_fit_r3) .ret)))⟩
def rat_fit_v : VFunc := ⟨rat_fit_f, true, false, false⟩
theorem rat_fit_ok : preFunc Tryd.prog ⟨[], [], []⟩ Tryd.f67 [] = some rat_fit_f := by kernel_rfl

-- gantry/rat.signed
def rat_signed_r0 : List LOper := [
  ⟨some 8, none, .mv false (.c (.bool false))⟩,
  ⟨some 9, none, .mv false (.c (.str []))⟩]
def rat_signed_r1 : List LOper := [
  ⟨some 14, none, .mv false (.t 0)⟩,
  ⟨some 15, none, .mv false (.t 2)⟩,
  ⟨some 16, none, .eqv false .bool (.t 14) (.t 15)⟩]
def rat_signed_r2 : List LOper := [
  ⟨some 17, none, .mv false (.t 0)⟩,
  ⟨some 18, none, .mv false (.t 1)⟩,
  ⟨some 19, none, .mv false (.t 3)⟩,
  ⟨some 20, none, .call false 94 [(.t 18), (.t 19)]⟩,
  ⟨some 8, none, .mv false (.t 17)⟩,
  ⟨some 9, none, .mv false (.t 20)⟩]
def rat_signed_r3 : List LOper := [
  ⟨some 22, none, .mv false (.t 1)⟩,
  ⟨some 23, none, .mv false (.t 3)⟩,
  ⟨some 24, none, .call false 117 [(.t 22), (.t 23)]⟩,
  ⟨some 21, none, .mv false (.t 24)⟩,
  ⟨some 25, none, .extract 0 (.t 21)⟩,
  ⟨some 26, none, .extract 1 (.t 21)⟩,
  ⟨some 10, none, .mv false (.t 25)⟩,
  ⟨some 11, none, .mv false (.t 26)⟩]
def rat_signed_r4 : List LOper := [
  ⟨some 27, none, .mv false (.t 11)⟩,
  ⟨some 28, none, .bin .eql (.t 27) (.c (.int .i64 0))⟩]
def rat_signed_r5 : List LOper := [
  ⟨some 29, none, .mv false (.t 0)⟩,
  ⟨some 30, none, .mv false (.t 10)⟩,
  ⟨some 8, none, .mv false (.t 29)⟩,
  ⟨some 9, none, .mv false (.t 30)⟩]
def rat_signed_r6 : List LOper := [
  ⟨some 32, none, .mv false (.t 3)⟩,
  ⟨some 33, none, .mv false (.t 1)⟩,
  ⟨some 34, none, .call false 117 [(.t 32), (.t 33)]⟩,
  ⟨some 31, none, .mv false (.t 34)⟩,
  ⟨some 35, none, .extract 0 (.t 31)⟩,
  ⟨some 36, none, .extract 1 (.t 31)⟩,
  ⟨some 12, none, .mv false (.t 35)⟩,
  ⟨some 13, none, .mv false (.t 36)⟩]
def rat_signed_r7 : List LOper := [
  ⟨some 37, none, .mv false (.t 2)⟩,
  ⟨some 38, none, .mv false (.t 12)⟩,
  ⟨some 8, none, .mv false (.t 37)⟩,
  ⟨some 9, none, .mv false (.t 38)⟩]
def rat_signed_f : LFunc := ⟨39, 4, [.tmp 8, .tmp 9], (.seq (.ops rat_signed_r0) (.seq (.seq (.ops rat_signed_r1) (.cond (.t 16) (.seq (.ops rat_signed_r2) .ret) .skip)) (.seq (.seq (.ops rat_signed_r3) (.seq (.ops rat_signed_r4) (.cond (.t 28) (.seq (.ops rat_signed_r5) .ret) .skip))) (.seq (.ops rat_signed_r6) (.seq (.ops rat_signed_r7) .ret)))))⟩
def rat_signed_v : VFunc := ⟨rat_signed_f, true, false, false⟩
theorem rat_signed_ok : preFunc Tryd.prog ⟨[], [], []⟩ Tryd.f68 [] = some rat_signed_f := by kernel_rfl

-- gantry/rat.made
def rat_made_r0 : List LOper := [
  ⟨some 6, none, .alloc [.bool false, .str [], .str []]⟩]
def rat_made_r1 : List LOper := [
  ⟨some 8, none, .mv false (.t 1)⟩,
  ⟨some 9, none, .bin .eql (.t 8) (.c (.str []))⟩]
def rat_made_r2 : List LOper := [
  ⟨some 10, none, .call false 116 []⟩,
  ⟨none, none, .store 3 (.t 6) (.t 10)⟩]
def rat_made_r3 : List LOper := [
  ⟨some 11, none, .mv false (.t 2)⟩,
  ⟨some 12, none, .bin .neq (.t 11) (.c (.str [1]))⟩]
def rat_made_r4 : List LOper := [
  ⟨some 13, none, .mv false (.t 1)⟩,
  ⟨some 14, none, .mv false (.t 2)⟩,
  ⟨some 15, none, .call false 118 [(.t 13), (.t 14)]⟩,
  ⟨some 7, none, .mv false (.t 15)⟩]
def rat_made_r5 : List LOper := [
  ⟨some 16, none, .mv false (.t 7)⟩,
  ⟨some 17, none, .bin .neq (.t 16) (.c (.str [1]))⟩]
def rat_made_r6 : List LOper := [
  ⟨some 19, none, .mv false (.t 1)⟩,
  ⟨some 20, none, .mv false (.t 7)⟩,
  ⟨some 21, none, .call false 119 [(.t 19), (.t 20)]⟩,
  ⟨some 18, none, .mv false (.t 21)⟩,
  ⟨some 22, none, .extract 0 (.t 18)⟩,
  ⟨some 23, none, .extract 1 (.t 18)⟩,
  ⟨some 24, none, .extract 2 (.t 18)⟩,
  ⟨some 1, none, .mv false (.t 22)⟩]
def rat_made_r7 : List LOper := [
  ⟨some 26, none, .mv false (.t 2)⟩,
  ⟨some 27, none, .mv false (.t 7)⟩,
  ⟨some 28, none, .call false 119 [(.t 26), (.t 27)]⟩,
  ⟨some 25, none, .mv false (.t 28)⟩,
  ⟨some 29, none, .extract 0 (.t 25)⟩,
  ⟨some 30, none, .extract 1 (.t 25)⟩,
  ⟨some 31, none, .extract 2 (.t 25)⟩,
  ⟨some 2, none, .mv false (.t 29)⟩]
def rat_made_r8 : List LOper := [
  ⟨some 32, none, .mv false (.t 0)⟩,
  ⟨some 33, none, .mv false (.t 1)⟩,
  ⟨some 34, none, .mv false (.t 2)⟩,
  ⟨some 35, none, .build [.bool false, .str [], .str []] [(0, 1, (.t 32)), (1, 1, (.t 33)), (2, 1, (.t 34))]⟩,
  ⟨none, none, .store 3 (.t 6) (.t 35)⟩]
def rat_made_f : LFunc := ⟨36, 3, [.cell 6 true 3], (.seq (.ops rat_made_r0) (.seq (.seq (.ops rat_made_r1) (.cond (.t 9) (.seq (.ops rat_made_r2) .ret) .skip)) (.seq (.seq (.ops rat_made_r3) (.cond (.t 12) (.seq (.ops rat_made_r4) (.seq (.ops rat_made_r5) (.cond (.t 17) (.seq (.ops rat_made_r6) (.ops rat_made_r7)) .skip))) .skip)) (.seq (.ops rat_made_r8) .ret))))⟩
def rat_made_v : VFunc := ⟨rat_made_f, true, false, false⟩
theorem rat_made_ok : preFunc Tryd.prog ⟨[], [], []⟩ Tryd.f69 [] = some rat_made_f := by kernel_rfl

-- gantry/nat.Mul
def nat_Mul_r0 : List LOper := [
  ⟨some 4, none, .mv false (.c (.str []))⟩]
def nat_Mul_r1 : List LOper := [
  ⟨some 13, none, .mv false (.t 0)⟩,
  ⟨some 14, none, .call false 120 [(.t 13)]⟩,
  ⟨some 15, none, .mv false (.t 1)⟩,
  ⟨some 16, none, .call false 120 [(.t 15)]⟩,
  ⟨some 0, none, .mv false (.t 14)⟩,
  ⟨some 1, none, .mv false (.t 16)⟩]
def nat_Mul_r2 : List LOper := [
  ⟨some 17, none, .mv false (.t 0)⟩,
  ⟨some 18, none, .lenS (.t 17)⟩,
  ⟨some 19, none, .mv false (.t 1)⟩,
  ⟨some 20, none, .lenS (.t 19)⟩,
  ⟨some 21, none, .bin .add (.t 18) (.t 20)⟩,
  ⟨some 22, none, .bin .leq (.t 21) (.c (.int .i64 8))⟩]
def nat_Mul_r3 : List LOper := [
  ⟨some 23, none, .mv false (.t 0)⟩,
  ⟨some 24, none, .call false 122 [(.t 23)]⟩,
  ⟨some 25, none, .mv false (.t 1)⟩,
  ⟨some 26, none, .call false 122 [(.t 25)]⟩,
  ⟨some 27, none, .bin .mul (.t 24) (.t 26)⟩,
  ⟨some 28, none, .call false 121 [(.t 27)]⟩,
  ⟨some 4, none, .mv false (.t 28)⟩]
def nat_Mul_r4 : List LOper := [
  ⟨some 29, none, .mv false (.t 0)⟩,
  ⟨some 30, none, .call false 123 [(.t 29)]⟩,
  ⟨some 31, none, .mv false (.t 1)⟩,
  ⟨some 32, none, .call false 123 [(.t 31)]⟩,
  ⟨some 5, none, .mv false (.t 30)⟩,
  ⟨some 6, none, .mv false (.t 32)⟩]
def nat_Mul_r5 : List LOper := [
  ⟨some 33, none, .mv false (.t 5)⟩,
  ⟨some 34, none, .lenL (.t 33)⟩,
  ⟨some 35, none, .mv false (.t 6)⟩,
  ⟨some 36, none, .lenL (.t 35)⟩,
  ⟨some 37, none, .bin .add (.t 34) (.t 36)⟩,
  ⟨some 38, none, .make true 1 4 [.int .u32 0] (.t 37) (.t 37)⟩,
  ⟨some 7, none, .mv false (.t 38)⟩]
def nat_Mul_r6 : List LOper := [
  ⟨some 39, none, .mv false (.t 5)⟩,
  ⟨some 40, none, .lenL (.t 39)⟩,
  ⟨some 41, none, .mv false (.c (.int .i64 0))⟩]
def nat_Mul_r7 : List LOper := [
  ⟨some 42, none, .bin .lss (.t 41) (.t 40)⟩]
def nat_Mul_r8 : List LOper := [
  ⟨some 43, none, .mv false (.t 41)⟩,
  ⟨some 44, none, .indexAddr 1 (.t 39) (.t 41)⟩,
  ⟨some 45, none, .load false false 1 (.t 44)⟩,
  ⟨some 8, none, .mv false (.t 43)⟩,
  ⟨some 9, none, .mv false (.t 45)⟩]
def nat_Mul_r9 : List LOper := [
  ⟨some 10, none, .mv false (.c (.int .u64 0))⟩]
def nat_Mul_r10 : List LOper := [
  ⟨some 46, none, .mv false (.t 6)⟩,
  ⟨some 47, none, .lenL (.t 46)⟩,
  ⟨some 48, none, .mv false (.c (.int .i64 0))⟩]
def nat_Mul_r11 : List LOper := [
  ⟨some 49, none, .bin .lss (.t 48) (.t 47)⟩]
def nat_Mul_r12 : List LOper := [
  ⟨some 50, none, .mv false (.t 48)⟩,
  ⟨some 51, none, .indexAddr 1 (.t 46) (.t 48)⟩,
  ⟨some 52, none, .load false false 1 (.t 51)⟩,
  ⟨some 11, none, .mv false (.t 50)⟩,
  ⟨some 12, none, .mv false (.t 52)⟩]
def nat_Mul_r13 : List LOper := [
  ⟨some 53, none, .mv false (.t 10)⟩,
  ⟨some 54, none, .mv false (.t 9)⟩,
  ⟨some 55, none, .conv .u64 (.t 54)⟩,
  ⟨some 56, none, .mv false (.t 12)⟩,
  ⟨some 57, none, .conv .u64 (.t 56)⟩,
  ⟨some 58, none, .bin .mul (.t 55) (.t 57)⟩,
  ⟨some 59, none, .mv false (.t 7)⟩,
  ⟨some 60, none, .mv false (.t 8)⟩,
  ⟨some 61, none, .mv false (.t 11)⟩,
  ⟨some 62, none, .bin .add (.t 60) (.t 61)⟩,
  ⟨some 63, none, .indexAddr 1 (.t 59) (.t 62)⟩,
  ⟨some 64, none, .load false false 1 (.t 63)⟩,
  ⟨some 65, none, .conv .u64 (.t 64)⟩,
  ⟨some 66, none, .bin .add (.t 58) (.t 65)⟩,
  ⟨some 67, none, .bin .add (.t 53) (.t 66)⟩,
  ⟨some 10, none, .mv false (.t 67)⟩]
def nat_Mul_r14 : List LOper := [
  ⟨some 68, none, .mv false (.t 7)⟩,
  ⟨some 69, none, .mv false (.t 8)⟩,
  ⟨some 70, none, .mv false (.t 11)⟩,
  ⟨some 71, none, .bin .add (.t 69) (.t 70)⟩,
  ⟨some 72, none, .mv false (.t 10)⟩,
  ⟨some 73, none, .conv .u32 (.t 72)⟩,
  ⟨some 74, none, .indexAddr 1 (.t 68) (.t 71)⟩,
  ⟨none, none, .store 1 (.t 74) (.t 73)⟩]
def nat_Mul_r15 : List LOper := [
  ⟨some 75, none, .mv false (.t 10)⟩,
  ⟨some 76, none, .bin .shr (.t 75) (.c (.int .u64 32))⟩,
  ⟨some 10, none, .mv false (.t 76)⟩]
def nat_Mul_r16 : List LOper := [
  ⟨some 77, none, .bin .add (.t 48) (.c (.int .i64 1))⟩,
  ⟨some 48, none, .mv false (.t 77)⟩]
def nat_Mul_b1 : LCode := (.seq (.ops nat_Mul_r11) (.seq (.cond (.t 49) .skip (.exit 2)) (.seq (.block 3 (.seq (.ops nat_Mul_r12) (.seq (.ops nat_Mul_r13) (.seq (.ops nat_Mul_r14) (.ops nat_Mul_r15))))) (.ops nat_Mul_r16))))
def nat_Mul_r17 : List LOper := [
  ⟨some 78, none, .mv false (.t 7)⟩,
  ⟨some 79, none, .mv false (.t 8)⟩,
  ⟨some 80, none, .mv false (.t 6)⟩,
  ⟨some 81, none, .lenL (.t 80)⟩,
  ⟨some 82, none, .bin .add (.t 79) (.t 81)⟩,
  ⟨some 83, none, .mv false (.t 10)⟩,
  ⟨some 84, none, .conv .u32 (.t 83)⟩,
  ⟨some 85, none, .indexAddr 1 (.t 78) (.t 82)⟩,
  ⟨none, none, .store 1 (.t 85) (.t 84)⟩]
def nat_Mul_r18 : List LOper := [
  ⟨some 86, none, .bin .add (.t 41) (.c (.int .i64 1))⟩,
  ⟨some 41, none, .mv false (.t 86)⟩]
def nat_Mul_b0 : LCode := (.seq (.ops nat_Mul_r7) (.seq (.cond (.t 42) .skip (.exit 0)) (.seq (.block 1 (.seq (.ops nat_Mul_r8) (.seq (.ops nat_Mul_r9) (.seq (.seq (.ops nat_Mul_r10) (.block 2 (.loop [6, 7, 8, 9, 10, 39, 40, 41, 46, 47, 48] nat_Mul_b1))) (.ops nat_Mul_r17))))) (.ops nat_Mul_r18))))
def nat_Mul_r19 : List LOper := [
  ⟨some 87, none, .mv false (.t 7)⟩,
  ⟨some 88, none, .call false 124 [(.t 87)]⟩,
  ⟨some 4, none, .mv false (.t 88)⟩]
def nat_Mul_f : LFunc := ⟨89, 2, [.tmp 4], (.seq (.ops nat_Mul_r0) (.seq (.ops nat_Mul_r1) (.seq (.seq (.ops nat_Mul_r2) (.cond (.t 22) (.seq (.ops nat_Mul_r3) .ret) .skip)) (.seq (.ops nat_Mul_r4) (.seq (.ops nat_Mul_r5) (.seq (.seq (.ops nat_Mul_r6) (.block 0 (.loop [6, 7, 39, 40, 41] nat_Mul_b0))) (.seq (.ops nat_Mul_r19) .ret)))))))⟩
def nat_Mul_v : VFunc := ⟨nat_Mul_f, true, false, false⟩
theorem nat_Mul_ok : preFunc Tryd.prog ⟨[], [], []⟩ Tryd.f70 [[6, 7, 39, 40, 41], [6, 7, 8, 9, 10, 39, 40, 41, 46, 47, 48]] = some nat_Mul_f := by kernel_rfl

-- gantry/rat.Max
def rat_Max_r0 : List LOper := [
  ⟨some 2, none, .box (.t 0)⟩,
  ⟨some 3, none, .box (.t 1)⟩,
  ⟨some 4, none, .alloc [.bool false, .str [], .str []]⟩]
def rat_Max_r1 : List LOper := [
  ⟨some 5, none, .load false true 3 (.t 2)⟩,
  ⟨some 6, none, .load false true 3 (.t 3)⟩,
  ⟨some 7, none, .call false 26 [(.t 5), (.t 6)]⟩,
  ⟨some 8, none, .bin .geq (.t 7) (.c (.int .i64 0))⟩]
def rat_Max_r2 : List LOper := [
  ⟨some 9, none, .load false true 3 (.t 2)⟩,
  ⟨some 10, none, .call false 67 [(.t 9)]⟩,
  ⟨none, none, .store 3 (.t 4) (.t 10)⟩]
def rat_Max_r3 : List LOper := [
  ⟨some 11, none, .load false true 3 (.t 3)⟩,
  ⟨some 12, none, .call false 67 [(.t 11)]⟩,
  ⟨none, none, .store 3 (.t 4) (.t 12)⟩]
def rat_Max_f : LFunc := ⟨13, 2, [.cell 4 true 3], (.seq (.ops rat_Max_r0) (.seq (.seq (.ops rat_Max_r1) (.cond (.t 8) (.seq (.ops rat_Max_r2) .ret) .skip)) (.seq (.ops rat_Max_r3) .ret)))⟩
def rat_Max_v : VFunc := ⟨rat_Max_f, true, false, false⟩
theorem rat_Max_ok : preFunc Tryd.prog ⟨[], [], []⟩ Tryd.f71 [] = some rat_Max_f := by kernel_rfl

-- gantry/nat.Cmp
def nat_Cmp_r0 : List LOper := [
  ⟨some 4, none, .mv false (.c (.int .i64 0))⟩]
def nat_Cmp_r1 : List LOper := [
  ⟨some 5, none, .mv false (.t 0)⟩,
  ⟨some 6, none, .call false 120 [(.t 5)]⟩,
  ⟨some 7, none, .mv false (.t 1)⟩,
  ⟨some 8, none, .call false 120 [(.t 7)]⟩,
  ⟨some 0, none, .mv false (.t 6)⟩,
  ⟨some 1, none, .mv false (.t 8)⟩]
def nat_Cmp_r2 : List LOper := [
  ⟨some 10, none, .mv false (.t 0)⟩,
  ⟨some 11, none, .lenS (.t 10)⟩,
  ⟨some 12, none, .mv false (.t 1)⟩,
  ⟨some 13, none, .lenS (.t 12)⟩,
  ⟨some 14, none, .bin .lss (.t 11) (.t 13)⟩,
  ⟨some 9, none, .mv false (.t 14)⟩]
def nat_Cmp_r3 : List LOper := [
  ⟨some 4, none, .mv false (.c (.int .i64 (-1)))⟩]
def nat_Cmp_r4 : List LOper := [
  ⟨some 16, none, .mv false (.t 0)⟩,
  ⟨some 17, none, .lenS (.t 16)⟩,
  ⟨some 18, none, .mv false (.t 1)⟩,
  ⟨some 19, none, .lenS (.t 18)⟩,
  ⟨some 20, none, .bin .gtr (.t 17) (.t 19)⟩,
  ⟨some 15, none, .mv false (.t 20)⟩]
def nat_Cmp_r5 : List LOper := [
  ⟨some 4, none, .mv false (.c (.int .i64 1))⟩]
def nat_Cmp_r6 : List LOper := [
  ⟨some 21, none, .mv false (.t 0)⟩,
  ⟨some 22, none, .mv false (.t 1)⟩,
  ⟨some 23, none, .call false 125 [(.t 21), (.t 22)]⟩,
  ⟨some 4, none, .mv false (.t 23)⟩]
def nat_Cmp_f : LFunc := ⟨24, 2, [.tmp 4], (.seq (.ops nat_Cmp_r0) (.seq (.ops nat_Cmp_r1) (.seq (.block 0 (.seq (.ops nat_Cmp_r2) (.cond (.t 9) (.seq (.ops nat_Cmp_r3) .ret) (.seq (.ops nat_Cmp_r4) (.cond (.t 15) (.seq (.ops nat_Cmp_r5) .ret) .skip))))) (.seq (.ops nat_Cmp_r6) .ret))))⟩
def nat_Cmp_v : VFunc := ⟨nat_Cmp_f, true, false, false⟩
theorem nat_Cmp_ok : preFunc Tryd.prog ⟨[], [], []⟩ Tryd.f73 [] = some nat_Cmp_f := by kernel_rfl

-- gantry/see.norm
def see_norm_r0 : List LOper := [
  ⟨some 1, none, .box (.t 0)⟩,
  ⟨some 2, none, .alloc [.bool false, .str [], .str [], .bool false, .str [], .str []]⟩]
def see_norm_r1 : List LOper := [
  ⟨some 3, none, .load false true 6 (.t 1)⟩,
  ⟨some 4, none, .call false 126 [(.t 3)]⟩]
def see_norm_r2 : List LOper := [
  ⟨some 5, none, .load false true 6 (.t 1)⟩,
  ⟨none, none, .store 6 (.t 2) (.t 5)⟩]
def see_norm_r3 : List LOper := [
  ⟨some 6, none, .call false 41 [(.c (.int .i64 0))]⟩,
  ⟨some 7, none, .call false 86 [(.t 6)]⟩,
  ⟨none, none, .store 6 (.t 2) (.t 7)⟩]
def see_norm_f : LFunc := ⟨8, 1, [.cell 2 true 6], (.seq (.ops see_norm_r0) (.seq (.seq (.ops see_norm_r1) (.cond (.t 4) (.seq (.ops see_norm_r2) .ret) .skip)) (.seq (.ops see_norm_r3) .ret)))⟩
def see_norm_v : VFunc := ⟨see_norm_f, true, false, false⟩
theorem see_norm_ok : preFunc Tryd.prog ⟨[], [], []⟩ Tryd.f75 [] = some see_norm_f := by kernel_rfl

-- gantry/rat.Div
def rat_Div_r0 : List LOper := [
  ⟨some 2, none, .box (.t 0)⟩,
  ⟨some 3, none, .box (.t 1)⟩,
  ⟨some 4, none, .alloc [.bool false, .str [], .str []]⟩,
  ⟨some 5, none, .mv false (.c (.int .i64 0))⟩]
def rat_Div_r1 : List LOper := [
  ⟨some 6, none, .load false true 3 (.t 2)⟩,
  ⟨some 7, none, .call true 67 [(.t 6)]⟩,
  ⟨some 8, none, .load false true 3 (.t 3)⟩,
  ⟨some 9, none, .call true 67 [(.t 8)]⟩,
  ⟨none, none, .store 3 (.t 2) (.t 7)⟩,
  ⟨none, none, .store 3 (.t 3) (.t 9)⟩]
theorem rat_Div_r1_d : drawC [0, 1, 0, 7, 15, 31] [
  ⟨some 6, none, .load false true 3 (.t 2)⟩,
  ⟨some 7, none, .call true 67 [(.t 6)]⟩,
  ⟨some 8, none, .load false true 3 (.t 3)⟩,
  ⟨some 9, none, .call true 67 [(.t 8)]⟩,
  ⟨none, none, .store 3 (.t 2) (.t 7)⟩,
  ⟨none, none, .store 3 (.t 3) (.t 9)⟩] = true := by kernel_rfl
def rat_Div_r2 : List LOper := [
  ⟨some 10, none, .fieldAddr 1 (.t 3)⟩,
  ⟨some 11, none, .load false false 1 (.t 10)⟩,
  ⟨some 12, none, .bin .eql (.t 11) (.c (.str []))⟩]
def rat_Div_r3 : List LOper := [
  ⟨some 13, none, .build [.bool false, .str [], .str []] []⟩,
  ⟨none, none, .store 3 (.t 4) (.t 13)⟩,
  ⟨some 5, none, .mv false (.c (.int .i64 12))⟩]
def rat_Div_r4 : List LOper := [
  ⟨some 14, none, .fieldAddr 0 (.t 2)⟩,
  ⟨some 15, none, .load false false 1 (.t 14)⟩,
  ⟨some 16, none, .fieldAddr 0 (.t 3)⟩,
  ⟨some 17, none, .load false false 1 (.t 16)⟩,
  ⟨some 18, none, .eqv true .bool (.t 15) (.t 17)⟩,
  ⟨some 19, none, .fieldAddr 1 (.t 2)⟩,
  ⟨some 20, none, .load false false 1 (.t 19)⟩,
  ⟨some 21, none, .fieldAddr 2 (.t 3)⟩,
  ⟨some 22, none, .load false false 1 (.t 21)⟩,
  ⟨some 23, none, .call true 70 [(.t 20), (.t 22)]⟩,
  ⟨some 24, none, .fieldAddr 2 (.t 2)⟩,
  ⟨some 25, none, .load false false 1 (.t 24)⟩,
  ⟨some 26, none, .fieldAddr 1 (.t 3)⟩,
  ⟨some 27, none, .load false false 1 (.t 26)⟩,
  ⟨some 28, none, .call true 70 [(.t 25), (.t 27)]⟩,
  ⟨some 29, none, .call true 69 [(.t 18), (.t 23), (.t 28)]⟩,
  ⟨none, none, .store 3 (.t 4) (.t 29)⟩,
  ⟨some 5, none, .mv false (.c (.int .i64 0))⟩]
theorem rat_Div_r4_d : drawC [0, 1, 0, 4, 15, 0, 32, 0, 128, 480, 0, 1024, 0, 4096, 16352, 32767, 65535, 131071] [
  ⟨some 14, none, .fieldAddr 0 (.t 2)⟩,
  ⟨some 15, none, .load false false 1 (.t 14)⟩,
  ⟨some 16, none, .fieldAddr 0 (.t 3)⟩,
  ⟨some 17, none, .load false false 1 (.t 16)⟩,
  ⟨some 18, none, .eqv true .bool (.t 15) (.t 17)⟩,
  ⟨some 19, none, .fieldAddr 1 (.t 2)⟩,
  ⟨some 20, none, .load false false 1 (.t 19)⟩,
  ⟨some 21, none, .fieldAddr 2 (.t 3)⟩,
  ⟨some 22, none, .load false false 1 (.t 21)⟩,
  ⟨some 23, none, .call true 70 [(.t 20), (.t 22)]⟩,
  ⟨some 24, none, .fieldAddr 2 (.t 2)⟩,
  ⟨some 25, none, .load false false 1 (.t 24)⟩,
  ⟨some 26, none, .fieldAddr 1 (.t 3)⟩,
  ⟨some 27, none, .load false false 1 (.t 26)⟩,
  ⟨some 28, none, .call true 70 [(.t 25), (.t 27)]⟩,
  ⟨some 29, none, .call true 69 [(.t 18), (.t 23), (.t 28)]⟩,
  ⟨none, none, .store 3 (.t 4) (.t 29)⟩,
  ⟨some 5, none, .mv false (.c (.int .i64 0))⟩] = true := by kernel_rfl
def rat_Div_f : LFunc := ⟨30, 2, [.cell 4 true 3, .tmp 5], (.seq (.ops rat_Div_r0) (.seq (.dops [0, 1, 0, 7, 15, 31] rat_Div_r1) (.seq (.seq (.ops rat_Div_r2) (.cond (.t 12) (.seq (.ops rat_Div_r3) .ret) .skip)) (.seq (.dops [0, 1, 0, 4, 15, 0, 32, 0, 128, 480, 0, 1024, 0, 4096, 16352, 32767, 65535, 131071] rat_Div_r4) .ret))))⟩
def rat_Div_v : VFunc := ⟨rat_Div_f, true, false, false⟩
theorem rat_Div_ok : preFunc Tryd.prog ⟨[], [], [7, 9, 23, 28, 29]⟩ Tryd.f76 [] = some rat_Div_f := by kernel_rfl

-- gantry/rat.Min
def rat_Min_r0 : List LOper := [
  ⟨some 2, none, .box (.t 0)⟩,
  ⟨some 3, none, .box (.t 1)⟩,
  ⟨some 4, none, .alloc [.bool false, .str [], .str []]⟩]
def rat_Min_r1 : List LOper := [
  ⟨some 5, none, .load false true 3 (.t 2)⟩,
  ⟨some 6, none, .load false true 3 (.t 3)⟩,
  ⟨some 7, none, .call false 26 [(.t 5), (.t 6)]⟩,
  ⟨some 8, none, .bin .leq (.t 7) (.c (.int .i64 0))⟩]
def rat_Min_r2 : List LOper := [
  ⟨some 9, none, .load false true 3 (.t 2)⟩,
  ⟨some 10, none, .call false 67 [(.t 9)]⟩,
  ⟨none, none, .store 3 (.t 4) (.t 10)⟩]
def rat_Min_r3 : List LOper := [
  ⟨some 11, none, .load false true 3 (.t 3)⟩,
  ⟨some 12, none, .call false 67 [(.t 11)]⟩,
  ⟨none, none, .store 3 (.t 4) (.t 12)⟩]
def rat_Min_f : LFunc := ⟨13, 2, [.cell 4 true 3], (.seq (.ops rat_Min_r0) (.seq (.seq (.ops rat_Min_r1) (.cond (.t 8) (.seq (.ops rat_Min_r2) .ret) .skip)) (.seq (.ops rat_Min_r3) .ret)))⟩
def rat_Min_v : VFunc := ⟨rat_Min_f, true, false, false⟩
theorem rat_Min_ok : preFunc Tryd.prog ⟨[], [], []⟩ Tryd.f83 [] = some rat_Min_f := by kernel_rfl

-- gantry/span.Of
def span_Of_r0 : List LOper := [
  ⟨some 1, none, .box (.t 0)⟩,
  ⟨some 2, none, .alloc [.bool false, .str [], .str [], .bool false, .str [], .str []]⟩]
def span_Of_r1 : List LOper := [
  ⟨some 3, none, .load false true 3 (.t 1)⟩,
  ⟨some 4, none, .load false true 3 (.t 1)⟩,
  ⟨some 5, none, .call false 83 [(.t 3), (.t 4)]⟩,
  ⟨none, none, .store 3 (.t 1) (.t 5)⟩]
def span_Of_r2 : List LOper := [
  ⟨some 6, none, .load false true 3 (.t 1)⟩,
  ⟨some 7, none, .load false true 3 (.t 1)⟩,
  ⟨some 8, none, .build [.bool false, .str [], .str [], .bool false, .str [], .str []] [(0, 3, (.t 6)), (3, 3, (.t 7))]⟩,
  ⟨none, none, .store 6 (.t 2) (.t 8)⟩]
def span_Of_f : LFunc := ⟨9, 1, [.cell 2 true 6], (.seq (.ops span_Of_r0) (.seq (.ops span_Of_r1) (.seq (.ops span_Of_r2) .ret)))⟩
def span_Of_v : VFunc := ⟨span_Of_f, true, false, false⟩
theorem span_Of_ok : preFunc Tryd.prog ⟨[], [], []⟩ Tryd.f86 [] = some span_Of_f := by kernel_rfl

-- gantry/span.Add
def span_Add_r0 : List LOper := [
  ⟨some 2, none, .box (.t 0)⟩,
  ⟨some 3, none, .box (.t 1)⟩,
  ⟨some 4, none, .alloc [.bool false, .str [], .str [], .bool false, .str [], .str []]⟩]
def span_Add_r1 : List LOper := [
  ⟨some 5, none, .load false true 6 (.t 2)⟩,
  ⟨some 6, none, .call true 113 [(.t 5)]⟩,
  ⟨some 7, none, .load false true 6 (.t 3)⟩,
  ⟨some 8, none, .call true 113 [(.t 7)]⟩,
  ⟨none, none, .store 6 (.t 2) (.t 6)⟩,
  ⟨none, none, .store 6 (.t 3) (.t 8)⟩]
theorem span_Add_r1_d : drawC [0, 1, 0, 7, 15, 31] [
  ⟨some 5, none, .load false true 6 (.t 2)⟩,
  ⟨some 6, none, .call true 113 [(.t 5)]⟩,
  ⟨some 7, none, .load false true 6 (.t 3)⟩,
  ⟨some 8, none, .call true 113 [(.t 7)]⟩,
  ⟨none, none, .store 6 (.t 2) (.t 6)⟩,
  ⟨none, none, .store 6 (.t 3) (.t 8)⟩] = true := by kernel_rfl
def span_Add_r2 : List LOper := [
  ⟨some 9, none, .fieldAddr 0 (.t 2)⟩,
  ⟨some 10, none, .load false true 3 (.t 9)⟩,
  ⟨some 11, none, .fieldAddr 0 (.t 3)⟩,
  ⟨some 12, none, .load false true 3 (.t 11)⟩,
  ⟨some 13, none, .call true 23 [(.t 10), (.t 12)]⟩,
  ⟨some 14, none, .fieldAddr 3 (.t 2)⟩,
  ⟨some 15, none, .load false true 3 (.t 14)⟩,
  ⟨some 16, none, .fieldAddr 3 (.t 3)⟩,
  ⟨some 17, none, .load false true 3 (.t 16)⟩,
  ⟨some 18, none, .call true 23 [(.t 15), (.t 17)]⟩,
  ⟨some 19, none, .build [.bool false, .str [], .str [], .bool false, .str [], .str []] [(0, 3, (.t 13)), (3, 3, (.t 18))]⟩,
  ⟨none, none, .store 6 (.t 4) (.t 19)⟩]
theorem span_Add_r2_d : drawC [0, 1, 0, 4, 15, 0, 32, 0, 128, 511, 1023, 2047] [
  ⟨some 9, none, .fieldAddr 0 (.t 2)⟩,
  ⟨some 10, none, .load false true 3 (.t 9)⟩,
  ⟨some 11, none, .fieldAddr 0 (.t 3)⟩,
  ⟨some 12, none, .load false true 3 (.t 11)⟩,
  ⟨some 13, none, .call true 23 [(.t 10), (.t 12)]⟩,
  ⟨some 14, none, .fieldAddr 3 (.t 2)⟩,
  ⟨some 15, none, .load false true 3 (.t 14)⟩,
  ⟨some 16, none, .fieldAddr 3 (.t 3)⟩,
  ⟨some 17, none, .load false true 3 (.t 16)⟩,
  ⟨some 18, none, .call true 23 [(.t 15), (.t 17)]⟩,
  ⟨some 19, none, .build [.bool false, .str [], .str [], .bool false, .str [], .str []] [(0, 3, (.t 13)), (3, 3, (.t 18))]⟩,
  ⟨none, none, .store 6 (.t 4) (.t 19)⟩] = true := by kernel_rfl
def span_Add_f : LFunc := ⟨20, 2, [.cell 4 true 6], (.seq (.ops span_Add_r0) (.seq (.dops [0, 1, 0, 7, 15, 31] span_Add_r1) (.seq (.dops [0, 1, 0, 4, 15, 0, 32, 0, 128, 511, 1023, 2047] span_Add_r2) .ret)))⟩
def span_Add_v : VFunc := ⟨span_Add_f, true, false, false⟩
theorem span_Add_ok : preFunc Tryd.prog ⟨[], [], [6, 8, 13, 18]⟩ Tryd.f87 [] = some span_Add_f := by kernel_rfl

-- gantry/span.Sub
def span_Sub_r0 : List LOper := [
  ⟨some 2, none, .box (.t 0)⟩,
  ⟨some 3, none, .box (.t 1)⟩,
  ⟨some 4, none, .alloc [.bool false, .str [], .str [], .bool false, .str [], .str []]⟩]
def span_Sub_r1 : List LOper := [
  ⟨some 5, none, .load false true 6 (.t 2)⟩,
  ⟨some 6, none, .call true 113 [(.t 5)]⟩,
  ⟨some 7, none, .load false true 6 (.t 3)⟩,
  ⟨some 8, none, .call true 113 [(.t 7)]⟩,
  ⟨none, none, .store 6 (.t 2) (.t 6)⟩,
  ⟨none, none, .store 6 (.t 3) (.t 8)⟩]
theorem span_Sub_r1_d : drawC [0, 1, 0, 7, 15, 31] [
  ⟨some 5, none, .load false true 6 (.t 2)⟩,
  ⟨some 6, none, .call true 113 [(.t 5)]⟩,
  ⟨some 7, none, .load false true 6 (.t 3)⟩,
  ⟨some 8, none, .call true 113 [(.t 7)]⟩,
  ⟨none, none, .store 6 (.t 2) (.t 6)⟩,
  ⟨none, none, .store 6 (.t 3) (.t 8)⟩] = true := by kernel_rfl
def span_Sub_r2 : List LOper := [
  ⟨some 9, none, .fieldAddr 0 (.t 2)⟩,
  ⟨some 10, none, .load false true 3 (.t 9)⟩,
  ⟨some 11, none, .fieldAddr 3 (.t 3)⟩,
  ⟨some 12, none, .load false true 3 (.t 11)⟩,
  ⟨some 13, none, .call true 22 [(.t 10), (.t 12)]⟩,
  ⟨some 14, none, .fieldAddr 3 (.t 2)⟩,
  ⟨some 15, none, .load false true 3 (.t 14)⟩,
  ⟨some 16, none, .fieldAddr 0 (.t 3)⟩,
  ⟨some 17, none, .load false true 3 (.t 16)⟩,
  ⟨some 18, none, .call true 22 [(.t 15), (.t 17)]⟩,
  ⟨some 19, none, .build [.bool false, .str [], .str [], .bool false, .str [], .str []] [(0, 3, (.t 13)), (3, 3, (.t 18))]⟩,
  ⟨none, none, .store 6 (.t 4) (.t 19)⟩]
theorem span_Sub_r2_d : drawC [0, 1, 0, 4, 15, 0, 32, 0, 128, 511, 1023, 2047] [
  ⟨some 9, none, .fieldAddr 0 (.t 2)⟩,
  ⟨some 10, none, .load false true 3 (.t 9)⟩,
  ⟨some 11, none, .fieldAddr 3 (.t 3)⟩,
  ⟨some 12, none, .load false true 3 (.t 11)⟩,
  ⟨some 13, none, .call true 22 [(.t 10), (.t 12)]⟩,
  ⟨some 14, none, .fieldAddr 3 (.t 2)⟩,
  ⟨some 15, none, .load false true 3 (.t 14)⟩,
  ⟨some 16, none, .fieldAddr 0 (.t 3)⟩,
  ⟨some 17, none, .load false true 3 (.t 16)⟩,
  ⟨some 18, none, .call true 22 [(.t 15), (.t 17)]⟩,
  ⟨some 19, none, .build [.bool false, .str [], .str [], .bool false, .str [], .str []] [(0, 3, (.t 13)), (3, 3, (.t 18))]⟩,
  ⟨none, none, .store 6 (.t 4) (.t 19)⟩] = true := by kernel_rfl
def span_Sub_f : LFunc := ⟨20, 2, [.cell 4 true 6], (.seq (.ops span_Sub_r0) (.seq (.dops [0, 1, 0, 7, 15, 31] span_Sub_r1) (.seq (.dops [0, 1, 0, 4, 15, 0, 32, 0, 128, 511, 1023, 2047] span_Sub_r2) .ret)))⟩
def span_Sub_v : VFunc := ⟨span_Sub_f, true, false, false⟩
theorem span_Sub_ok : preFunc Tryd.prog ⟨[], [], [6, 8, 13, 18]⟩ Tryd.f88 [] = some span_Sub_f := by kernel_rfl

-- gantry/span.Mul
def span_Mul_r0 : List LOper := [
  ⟨some 2, none, .box (.t 0)⟩,
  ⟨some 3, none, .box (.t 1)⟩,
  ⟨some 4, none, .alloc [.bool false, .str [], .str [], .bool false, .str [], .str []]⟩]
def span_Mul_r1 : List LOper := [
  ⟨some 5, none, .load false true 6 (.t 2)⟩,
  ⟨some 6, none, .call true 113 [(.t 5)]⟩,
  ⟨some 7, none, .load false true 6 (.t 3)⟩,
  ⟨some 8, none, .call true 113 [(.t 7)]⟩,
  ⟨none, none, .store 6 (.t 2) (.t 6)⟩,
  ⟨none, none, .store 6 (.t 3) (.t 8)⟩]
theorem span_Mul_r1_d : drawC [0, 1, 0, 7, 15, 31] [
  ⟨some 5, none, .load false true 6 (.t 2)⟩,
  ⟨some 6, none, .call true 113 [(.t 5)]⟩,
  ⟨some 7, none, .load false true 6 (.t 3)⟩,
  ⟨some 8, none, .call true 113 [(.t 7)]⟩,
  ⟨none, none, .store 6 (.t 2) (.t 6)⟩,
  ⟨none, none, .store 6 (.t 3) (.t 8)⟩] = true := by kernel_rfl
def span_Mul_r2 : List LOper := [
  ⟨some 9, none, .fieldAddr 0 (.t 2)⟩,
  ⟨some 10, none, .load false true 3 (.t 9)⟩,
  ⟨some 11, none, .fieldAddr 0 (.t 3)⟩,
  ⟨some 12, none, .load false true 3 (.t 11)⟩,
  ⟨some 13, none, .call true 112 [(.t 10), (.t 12)]⟩,
  ⟨some 14, none, .fieldAddr 0 (.t 2)⟩,
  ⟨some 15, none, .load false true 3 (.t 14)⟩,
  ⟨some 16, none, .fieldAddr 3 (.t 3)⟩,
  ⟨some 17, none, .load false true 3 (.t 16)⟩,
  ⟨some 18, none, .call true 112 [(.t 15), (.t 17)]⟩,
  ⟨some 19, none, .fieldAddr 3 (.t 2)⟩,
  ⟨some 20, none, .load false true 3 (.t 19)⟩,
  ⟨some 21, none, .fieldAddr 0 (.t 3)⟩,
  ⟨some 22, none, .load false true 3 (.t 21)⟩,
  ⟨some 23, none, .call true 112 [(.t 20), (.t 22)]⟩,
  ⟨some 24, none, .fieldAddr 3 (.t 2)⟩,
  ⟨some 25, none, .load false true 3 (.t 24)⟩,
  ⟨some 26, none, .fieldAddr 3 (.t 3)⟩,
  ⟨some 27, none, .load false true 3 (.t 26)⟩,
  ⟨some 28, none, .call true 112 [(.t 25), (.t 27)]⟩,
  ⟨some 29, none, .bslice false 4 3 [.bool false, .str [], .str [], .bool false, .str [], .str [], .bool false, .str [], .str [], .bool false, .str [], .str []] [(0, 3, (.t 13)), (3, 3, (.t 18)), (6, 3, (.t 23)), (9, 3, (.t 28))]⟩,
  ⟨some 30, none, .call true 134 [(.t 29)]⟩,
  ⟨none, none, .store 6 (.t 4) (.t 30)⟩]
theorem span_Mul_r2_d : drawC [0, 1, 0, 4, 15, 0, 32, 0, 128, 511, 0, 1024, 0, 4096, 16383, 0, 32768, 0, 131072, 524287, 1048575, 2097151, 4194303] [
  ⟨some 9, none, .fieldAddr 0 (.t 2)⟩,
  ⟨some 10, none, .load false true 3 (.t 9)⟩,
  ⟨some 11, none, .fieldAddr 0 (.t 3)⟩,
  ⟨some 12, none, .load false true 3 (.t 11)⟩,
  ⟨some 13, none, .call true 112 [(.t 10), (.t 12)]⟩,
  ⟨some 14, none, .fieldAddr 0 (.t 2)⟩,
  ⟨some 15, none, .load false true 3 (.t 14)⟩,
  ⟨some 16, none, .fieldAddr 3 (.t 3)⟩,
  ⟨some 17, none, .load false true 3 (.t 16)⟩,
  ⟨some 18, none, .call true 112 [(.t 15), (.t 17)]⟩,
  ⟨some 19, none, .fieldAddr 3 (.t 2)⟩,
  ⟨some 20, none, .load false true 3 (.t 19)⟩,
  ⟨some 21, none, .fieldAddr 0 (.t 3)⟩,
  ⟨some 22, none, .load false true 3 (.t 21)⟩,
  ⟨some 23, none, .call true 112 [(.t 20), (.t 22)]⟩,
  ⟨some 24, none, .fieldAddr 3 (.t 2)⟩,
  ⟨some 25, none, .load false true 3 (.t 24)⟩,
  ⟨some 26, none, .fieldAddr 3 (.t 3)⟩,
  ⟨some 27, none, .load false true 3 (.t 26)⟩,
  ⟨some 28, none, .call true 112 [(.t 25), (.t 27)]⟩,
  ⟨some 29, none, .bslice false 4 3 [.bool false, .str [], .str [], .bool false, .str [], .str [], .bool false, .str [], .str [], .bool false, .str [], .str []] [(0, 3, (.t 13)), (3, 3, (.t 18)), (6, 3, (.t 23)), (9, 3, (.t 28))]⟩,
  ⟨some 30, none, .call true 134 [(.t 29)]⟩,
  ⟨none, none, .store 6 (.t 4) (.t 30)⟩] = true := by kernel_rfl
def span_Mul_f : LFunc := ⟨31, 2, [.cell 4 true 6], (.seq (.ops span_Mul_r0) (.seq (.dops [0, 1, 0, 7, 15, 31] span_Mul_r1) (.seq (.dops [0, 1, 0, 4, 15, 0, 32, 0, 128, 511, 0, 1024, 0, 4096, 16383, 0, 32768, 0, 131072, 524287, 1048575, 2097151, 4194303] span_Mul_r2) .ret)))⟩
def span_Mul_v : VFunc := ⟨span_Mul_f, true, false, false⟩
theorem span_Mul_ok : preFunc Tryd.prog ⟨[], [], [6, 8, 13, 18, 23, 28, 30]⟩ Tryd.f89 [] = some span_Mul_f := by kernel_rfl

-- gantry/nat.Of
def nat_Of_r0 : List LOper := [
  ⟨some 2, none, .mv false (.c (.str []))⟩]
def nat_Of_r1 : List LOper := [
  ⟨some 3, none, .mv false (.t 0)⟩,
  ⟨some 4, none, .bin .lss (.t 3) (.c (.int .i64 1))⟩]
def nat_Of_r2 : List LOper := [
  ⟨some 2, none, .mv false (.c (.str []))⟩]
def nat_Of_r3 : List LOper := [
  ⟨some 5, none, .mv false (.t 0)⟩,
  ⟨some 6, none, .conv .u64 (.t 5)⟩,
  ⟨some 7, none, .call false 121 [(.t 6)]⟩,
  ⟨some 2, none, .mv false (.t 7)⟩]
def nat_Of_f : LFunc := ⟨8, 1, [.tmp 2], (.seq (.ops nat_Of_r0) (.seq (.seq (.ops nat_Of_r1) (.cond (.t 4) (.seq (.ops nat_Of_r2) .ret) .skip)) (.seq (.ops nat_Of_r3) .ret)))⟩
def nat_Of_v : VFunc := ⟨nat_Of_f, true, false, false⟩
theorem nat_Of_ok : preFunc Tryd.prog ⟨[], [], []⟩ Tryd.f93 [] = some nat_Of_f := by kernel_rfl

-- gantry/nat.Add
def nat_Add_r0 : List LOper := [
  ⟨some 4, none, .mv false (.c (.str []))⟩]
def nat_Add_r1 : List LOper := [
  ⟨some 11, none, .mv false (.t 0)⟩,
  ⟨some 12, none, .call false 120 [(.t 11)]⟩,
  ⟨some 13, none, .mv false (.t 1)⟩,
  ⟨some 14, none, .call false 120 [(.t 13)]⟩,
  ⟨some 0, none, .mv false (.t 12)⟩,
  ⟨some 1, none, .mv false (.t 14)⟩]
def nat_Add_r2 : List LOper := [
  ⟨some 15, none, .mv false (.t 0)⟩,
  ⟨some 16, none, .lenS (.t 15)⟩,
  ⟨some 17, none, .bin .lss (.t 16) (.c (.int .i64 8))⟩,
  ⟨some 18, none, .mv false (.t 17)⟩,
  ⟨some 19, some (18, true), .mv false (.t 1)⟩,
  ⟨some 20, some (18, true), .lenS (.t 19)⟩,
  ⟨some 21, some (18, true), .bin .lss (.t 20) (.c (.int .i64 8))⟩,
  ⟨some 22, none, .pick (.t 18) (.t 21) (.c (.bool false))⟩]
def nat_Add_r3 : List LOper := [
  ⟨some 23, none, .mv false (.t 0)⟩,
  ⟨some 24, none, .call false 122 [(.t 23)]⟩,
  ⟨some 25, none, .mv false (.t 1)⟩,
  ⟨some 26, none, .call false 122 [(.t 25)]⟩,
  ⟨some 27, none, .bin .add (.t 24) (.t 26)⟩,
  ⟨some 28, none, .call false 121 [(.t 27)]⟩,
  ⟨some 4, none, .mv false (.t 28)⟩]
def nat_Add_r4 : List LOper := [
  ⟨some 29, none, .mv false (.t 0)⟩,
  ⟨some 30, none, .call false 123 [(.t 29)]⟩,
  ⟨some 31, none, .mv false (.t 1)⟩,
  ⟨some 32, none, .call false 123 [(.t 31)]⟩,
  ⟨some 5, none, .mv false (.t 30)⟩,
  ⟨some 6, none, .mv false (.t 32)⟩]
def nat_Add_r5 : List LOper := [
  ⟨some 33, none, .mv false (.t 5)⟩,
  ⟨some 34, none, .lenL (.t 33)⟩,
  ⟨some 35, none, .mv false (.t 6)⟩,
  ⟨some 36, none, .lenL (.t 35)⟩,
  ⟨some 37, none, .bin .lss (.t 34) (.t 36)⟩]
def nat_Add_r6 : List LOper := [
  ⟨some 38, none, .mv false (.t 6)⟩,
  ⟨some 39, none, .mv false (.t 5)⟩,
  ⟨some 5, none, .mv false (.t 38)⟩,
  ⟨some 6, none, .mv false (.t 39)⟩]
def nat_Add_r7 : List LOper := [
  ⟨some 40, none, .mv false (.t 5)⟩,
  ⟨some 41, none, .lenL (.t 40)⟩,
  ⟨some 42, none, .bin .add (.t 41) (.c (.int .i64 1))⟩,
  ⟨some 43, none, .make true 1 4 [.int .u32 0] (.t 42) (.t 42)⟩,
  ⟨some 7, none, .mv false (.t 43)⟩]
def nat_Add_r8 : List LOper := [
  ⟨some 8, none, .mv false (.c (.int .u64 0))⟩]
def nat_Add_r9 : List LOper := [
  ⟨some 44, none, .mv false (.t 5)⟩,
  ⟨some 45, none, .lenL (.t 44)⟩,
  ⟨some 46, none, .mv false (.c (.int .i64 0))⟩]
def nat_Add_r10 : List LOper := [
  ⟨some 47, none, .bin .lss (.t 46) (.t 45)⟩]
def nat_Add_r11 : List LOper := [
  ⟨some 48, none, .mv false (.t 46)⟩,
  ⟨some 49, none, .indexAddr 1 (.t 44) (.t 46)⟩,
  ⟨some 50, none, .load false false 1 (.t 49)⟩,
  ⟨some 9, none, .mv false (.t 48)⟩,
  ⟨some 10, none, .mv false (.t 50)⟩]
def nat_Add_r12 : List LOper := [
  ⟨some 51, none, .mv false (.t 8)⟩,
  ⟨some 52, none, .mv false (.t 10)⟩,
  ⟨some 53, none, .conv .u64 (.t 52)⟩,
  ⟨some 54, none, .bin .add (.t 51) (.t 53)⟩,
  ⟨some 8, none, .mv false (.t 54)⟩]
def nat_Add_r13 : List LOper := [
  ⟨some 55, none, .mv false (.t 9)⟩,
  ⟨some 56, none, .mv false (.t 6)⟩,
  ⟨some 57, none, .lenL (.t 56)⟩,
  ⟨some 58, none, .bin .lss (.t 55) (.t 57)⟩]
def nat_Add_r14 : List LOper := [
  ⟨some 59, none, .mv false (.t 8)⟩,
  ⟨some 60, none, .mv false (.t 6)⟩,
  ⟨some 61, none, .mv false (.t 9)⟩,
  ⟨some 62, none, .indexAddr 1 (.t 60) (.t 61)⟩,
  ⟨some 63, none, .load false false 1 (.t 62)⟩,
  ⟨some 64, none, .conv .u64 (.t 63)⟩,
  ⟨some 65, none, .bin .add (.t 59) (.t 64)⟩,
  ⟨some 8, none, .mv false (.t 65)⟩]
def nat_Add_r15 : List LOper := [
  ⟨some 66, none, .mv false (.t 7)⟩,
  ⟨some 67, none, .mv false (.t 9)⟩,
  ⟨some 68, none, .mv false (.t 8)⟩,
  ⟨some 69, none, .conv .u32 (.t 68)⟩,
  ⟨some 70, none, .indexAddr 1 (.t 66) (.t 67)⟩,
  ⟨none, none, .store 1 (.t 70) (.t 69)⟩]
def nat_Add_r16 : List LOper := [
  ⟨some 71, none, .mv false (.t 8)⟩,
  ⟨some 72, none, .bin .shr (.t 71) (.c (.int .u64 32))⟩,
  ⟨some 8, none, .mv false (.t 72)⟩]
def nat_Add_r17 : List LOper := [
  ⟨some 73, none, .bin .add (.t 46) (.c (.int .i64 1))⟩,
  ⟨some 46, none, .mv false (.t 73)⟩]
def nat_Add_b0 : LCode := (.seq (.ops nat_Add_r10) (.seq (.cond (.t 47) .skip (.exit 0)) (.seq (.block 1 (.seq (.ops nat_Add_r11) (.seq (.ops nat_Add_r12) (.seq (.seq (.ops nat_Add_r13) (.cond (.t 58) (.ops nat_Add_r14) .skip)) (.seq (.ops nat_Add_r15) (.ops nat_Add_r16)))))) (.ops nat_Add_r17))))
def nat_Add_r18 : List LOper := [
  ⟨some 74, none, .mv false (.t 7)⟩,
  ⟨some 75, none, .mv false (.t 5)⟩,
  ⟨some 76, none, .lenL (.t 75)⟩,
  ⟨some 77, none, .mv false (.t 8)⟩,
  ⟨some 78, none, .conv .u32 (.t 77)⟩,
  ⟨some 79, none, .indexAddr 1 (.t 74) (.t 76)⟩,
  ⟨none, none, .store 1 (.t 79) (.t 78)⟩]
def nat_Add_r19 : List LOper := [
  ⟨some 80, none, .mv false (.t 7)⟩,
  ⟨some 81, none, .call false 124 [(.t 80)]⟩,
  ⟨some 4, none, .mv false (.t 81)⟩]
def nat_Add_f : LFunc := ⟨82, 2, [.tmp 4], (.seq (.ops nat_Add_r0) (.seq (.ops nat_Add_r1) (.seq (.seq (.ops nat_Add_r2) (.cond (.t 22) (.seq (.ops nat_Add_r3) .ret) .skip)) (.seq (.ops nat_Add_r4) (.seq (.seq (.ops nat_Add_r5) (.cond (.t 37) (.ops nat_Add_r6) .skip)) (.seq (.ops nat_Add_r7) (.seq (.ops nat_Add_r8) (.seq (.seq (.ops nat_Add_r9) (.block 0 (.loop [5, 6, 7, 8, 44, 45, 46] nat_Add_b0))) (.seq (.ops nat_Add_r18) (.seq (.ops nat_Add_r19) .ret))))))))))⟩
def nat_Add_v : VFunc := ⟨nat_Add_f, true, false, false⟩
theorem nat_Add_ok : preFunc Tryd.prog ⟨[], [], []⟩ Tryd.f94 [[5, 6, 7, 8, 44, 45, 46]] = some nat_Add_f := by kernel_rfl

-- gantry/see.wide
def see_wide_r0 : List LOper := [
  ⟨some 2, none, .box (.t 0)⟩,
  ⟨some 3, none, .box (.t 1)⟩,
  ⟨some 4, none, .alloc [.bool false, .str [], .str [], .bool false, .str [], .str []]⟩]
def see_wide_r1 : List LOper := [
  ⟨some 5, none, .load false true 6 (.t 2)⟩,
  ⟨some 6, none, .call true 75 [(.t 5)]⟩,
  ⟨some 7, none, .load false true 3 (.t 3)⟩,
  ⟨some 8, none, .call true 41 [(.c (.int .i64 0))]⟩,
  ⟨some 9, none, .call true 71 [(.t 7), (.t 8)]⟩,
  ⟨none, none, .store 6 (.t 2) (.t 6)⟩,
  ⟨none, none, .store 3 (.t 3) (.t 9)⟩]
theorem see_wide_r1_d : drawC [0, 1, 0, 3, 15, 31, 63] [
  ⟨some 5, none, .load false true 6 (.t 2)⟩,
  ⟨some 6, none, .call true 75 [(.t 5)]⟩,
  ⟨some 7, none, .load false true 3 (.t 3)⟩,
  ⟨some 8, none, .call true 41 [(.c (.int .i64 0))]⟩,
  ⟨some 9, none, .call true 71 [(.t 7), (.t 8)]⟩,
  ⟨none, none, .store 6 (.t 2) (.t 6)⟩,
  ⟨none, none, .store 3 (.t 3) (.t 9)⟩] = true := by kernel_rfl
def see_wide_r2 : List LOper := [
  ⟨some 10, none, .fieldAddr 0 (.t 2)⟩,
  ⟨some 11, none, .load false true 3 (.t 10)⟩,
  ⟨some 12, none, .load false true 3 (.t 3)⟩,
  ⟨some 13, none, .call true 22 [(.t 11), (.t 12)]⟩,
  ⟨some 14, none, .fieldAddr 3 (.t 2)⟩,
  ⟨some 15, none, .load false true 3 (.t 14)⟩,
  ⟨some 16, none, .load false true 3 (.t 3)⟩,
  ⟨some 17, none, .call true 23 [(.t 15), (.t 16)]⟩,
  ⟨some 18, none, .build [.bool false, .str [], .str [], .bool false, .str [], .str []] [(0, 3, (.t 13)), (3, 3, (.t 17))]⟩,
  ⟨none, none, .store 6 (.t 4) (.t 18)⟩]
theorem see_wide_r2_d : drawC [0, 1, 0, 7, 0, 16, 0, 127, 255, 511] [
  ⟨some 10, none, .fieldAddr 0 (.t 2)⟩,
  ⟨some 11, none, .load false true 3 (.t 10)⟩,
  ⟨some 12, none, .load false true 3 (.t 3)⟩,
  ⟨some 13, none, .call true 22 [(.t 11), (.t 12)]⟩,
  ⟨some 14, none, .fieldAddr 3 (.t 2)⟩,
  ⟨some 15, none, .load false true 3 (.t 14)⟩,
  ⟨some 16, none, .load false true 3 (.t 3)⟩,
  ⟨some 17, none, .call true 23 [(.t 15), (.t 16)]⟩,
  ⟨some 18, none, .build [.bool false, .str [], .str [], .bool false, .str [], .str []] [(0, 3, (.t 13)), (3, 3, (.t 17))]⟩,
  ⟨none, none, .store 6 (.t 4) (.t 18)⟩] = true := by kernel_rfl
def see_wide_f : LFunc := ⟨19, 2, [.cell 4 true 6], (.seq (.ops see_wide_r0) (.seq (.dops [0, 1, 0, 3, 15, 31, 63] see_wide_r1) (.seq (.dops [0, 1, 0, 7, 0, 16, 0, 127, 255, 511] see_wide_r2) .ret)))⟩
def see_wide_v : VFunc := ⟨see_wide_f, true, false, false⟩
theorem see_wide_ok : preFunc Tryd.prog ⟨[], [], [6, 8, 9, 13, 17]⟩ Tryd.f99 [] = some see_wide_f := by kernel_rfl

-- gantry/carry.place
def carry_place_r0 : List LOper := [
  ⟨some 1, none, .box (.t 0)⟩,
  ⟨some 2, none, .alloc [.bool false, .str [], .str [], .bool false, .str [], .str []]⟩,
  ⟨some 3, none, .alloc [.bool false, .str [], .str [], .bool false, .str [], .str []]⟩]
def carry_place_r1 : List LOper := [
  ⟨some 6, none, .fieldAddr 11 (.t 1)⟩,
  ⟨some 7, none, .load false true 3 (.t 6)⟩,
  ⟨some 8, none, .call true 41 [(.c (.int .i64 0))]⟩,
  ⟨some 9, none, .call true 71 [(.t 7), (.t 8)]⟩,
  ⟨some 4, none, .alloc [.bool false, .str [], .str []]⟩,
  ⟨none, none, .store 3 (.t 4) (.t 9)⟩]
theorem carry_place_r1_d : drawC [0, 1, 0, 7, 0, 31] [
  ⟨some 6, none, .fieldAddr 11 (.t 1)⟩,
  ⟨some 7, none, .load false true 3 (.t 6)⟩,
  ⟨some 8, none, .call true 41 [(.c (.int .i64 0))]⟩,
  ⟨some 9, none, .call true 71 [(.t 7), (.t 8)]⟩,
  ⟨some 4, none, .alloc [.bool false, .str [], .str []]⟩,
  ⟨none, none, .store 3 (.t 4) (.t 9)⟩] = false ∧ drawW [0, 1, 0, 7, 0, 31] [
  ⟨some 6, none, .fieldAddr 11 (.t 1)⟩,
  ⟨some 7, none, .load false true 3 (.t 6)⟩,
  ⟨some 8, none, .call true 41 [(.c (.int .i64 0))]⟩,
  ⟨some 9, none, .call true 71 [(.t 7), (.t 8)]⟩,
  ⟨some 4, none, .alloc [.bool false, .str [], .str []]⟩,
  ⟨none, none, .store 3 (.t 4) (.t 9)⟩] = true := ⟨by kernel_rfl, by kernel_rfl⟩
def carry_place_r2 : List LOper := [
  ⟨some 10, none, .mkfunc 138 [(.t 4)]⟩,
  ⟨some 5, none, .mv false (.t 10)⟩]
def carry_place_r3 : List LOper := [
  ⟨some 11, none, .mv false (.t 5)⟩,
  ⟨some 12, none, .fieldAddr 1 (.t 1)⟩,
  ⟨some 13, none, .fieldAddr 0 (.t 12)⟩,
  ⟨some 14, none, .fieldAddr 0 (.t 13)⟩,
  ⟨some 15, none, .load false true 3 (.t 14)⟩,
  ⟨some 16, none, .callv (.t 11) [(.t 15)]⟩,
  ⟨some 17, none, .mv false (.t 5)⟩,
  ⟨some 18, none, .fieldAddr 1 (.t 1)⟩,
  ⟨some 19, none, .fieldAddr 0 (.t 18)⟩,
  ⟨some 20, none, .fieldAddr 3 (.t 19)⟩,
  ⟨some 21, none, .load false true 3 (.t 20)⟩,
  ⟨some 22, none, .callv (.t 17) [(.t 21)]⟩,
  ⟨none, none, .store 6 (.t 2) (.t 16)⟩,
  ⟨none, none, .store 6 (.t 3) (.t 22)⟩]
theorem carry_place_r3_d : drawC [0, 0, 2, 6, 14, 31, 0, 0, 128, 384, 896, 2047, 4095, 8191] [
  ⟨some 11, none, .mv false (.t 5)⟩,
  ⟨some 12, none, .fieldAddr 1 (.t 1)⟩,
  ⟨some 13, none, .fieldAddr 0 (.t 12)⟩,
  ⟨some 14, none, .fieldAddr 0 (.t 13)⟩,
  ⟨some 15, none, .load false true 3 (.t 14)⟩,
  ⟨some 16, none, .callv (.t 11) [(.t 15)]⟩,
  ⟨some 17, none, .mv false (.t 5)⟩,
  ⟨some 18, none, .fieldAddr 1 (.t 1)⟩,
  ⟨some 19, none, .fieldAddr 0 (.t 18)⟩,
  ⟨some 20, none, .fieldAddr 3 (.t 19)⟩,
  ⟨some 21, none, .load false true 3 (.t 20)⟩,
  ⟨some 22, none, .callv (.t 17) [(.t 21)]⟩,
  ⟨none, none, .store 6 (.t 2) (.t 16)⟩,
  ⟨none, none, .store 6 (.t 3) (.t 22)⟩] = false ∧ drawW [0, 0, 2, 6, 14, 31, 0, 0, 128, 384, 896, 2047, 4095, 8191] [
  ⟨some 11, none, .mv false (.t 5)⟩,
  ⟨some 12, none, .fieldAddr 1 (.t 1)⟩,
  ⟨some 13, none, .fieldAddr 0 (.t 12)⟩,
  ⟨some 14, none, .fieldAddr 0 (.t 13)⟩,
  ⟨some 15, none, .load false true 3 (.t 14)⟩,
  ⟨some 16, none, .callv (.t 11) [(.t 15)]⟩,
  ⟨some 17, none, .mv false (.t 5)⟩,
  ⟨some 18, none, .fieldAddr 1 (.t 1)⟩,
  ⟨some 19, none, .fieldAddr 0 (.t 18)⟩,
  ⟨some 20, none, .fieldAddr 3 (.t 19)⟩,
  ⟨some 21, none, .load false true 3 (.t 20)⟩,
  ⟨some 22, none, .callv (.t 17) [(.t 21)]⟩,
  ⟨none, none, .store 6 (.t 2) (.t 16)⟩,
  ⟨none, none, .store 6 (.t 3) (.t 22)⟩] = true := ⟨by kernel_rfl, by kernel_rfl⟩
def carry_place_f : LFunc := ⟨23, 1, [.cell 2 true 6, .cell 3 true 6], (.seq (.ops carry_place_r0) (.seq (.dops [0, 1, 0, 7, 0, 31] carry_place_r1) (.seq (.ops carry_place_r2) (.seq (.dops [0, 0, 2, 6, 14, 31, 0, 0, 128, 384, 896, 2047, 4095, 8191] carry_place_r3) .ret))))⟩
def carry_place_v : VFunc := ⟨carry_place_f, true, false, false⟩
theorem carry_place_ok : preFunc Tryd.prog ⟨[], [], [8, 9]⟩ Tryd.f100 [] = some carry_place_f := by kernel_rfl

-- gantry/span.Meet
def span_Meet_r0 : List LOper := [
  ⟨some 2, none, .box (.t 0)⟩,
  ⟨some 3, none, .box (.t 1)⟩,
  ⟨some 4, none, .mv false (.c (.bool false))⟩]
def span_Meet_r1 : List LOper := [
  ⟨some 5, none, .load false true 6 (.t 2)⟩,
  ⟨some 6, none, .call true 113 [(.t 5)]⟩,
  ⟨some 7, none, .load false true 6 (.t 3)⟩,
  ⟨some 8, none, .call true 113 [(.t 7)]⟩,
  ⟨none, none, .store 6 (.t 2) (.t 6)⟩,
  ⟨none, none, .store 6 (.t 3) (.t 8)⟩]
theorem span_Meet_r1_d : drawC [0, 1, 0, 7, 15, 31] [
  ⟨some 5, none, .load false true 6 (.t 2)⟩,
  ⟨some 6, none, .call true 113 [(.t 5)]⟩,
  ⟨some 7, none, .load false true 6 (.t 3)⟩,
  ⟨some 8, none, .call true 113 [(.t 7)]⟩,
  ⟨none, none, .store 6 (.t 2) (.t 6)⟩,
  ⟨none, none, .store 6 (.t 3) (.t 8)⟩] = true := by kernel_rfl
def span_Meet_r2 : List LOper := [
  ⟨some 9, none, .fieldAddr 0 (.t 2)⟩,
  ⟨some 10, none, .load false true 3 (.t 9)⟩,
  ⟨some 11, none, .fieldAddr 3 (.t 3)⟩,
  ⟨some 12, none, .load false true 3 (.t 11)⟩,
  ⟨some 13, none, .call false 26 [(.t 10), (.t 12)]⟩,
  ⟨some 14, none, .bin .leq (.t 13) (.c (.int .i64 0))⟩,
  ⟨some 15, none, .mv false (.t 14)⟩,
  ⟨some 16, some (15, true), .fieldAddr 0 (.t 3)⟩,
  ⟨some 17, some (15, true), .load false true 3 (.t 16)⟩,
  ⟨some 18, some (15, true), .fieldAddr 3 (.t 2)⟩,
  ⟨some 19, some (15, true), .load false true 3 (.t 18)⟩,
  ⟨some 20, some (15, true), .call false 26 [(.t 17), (.t 19)]⟩,
  ⟨some 21, some (15, true), .bin .leq (.t 20) (.c (.int .i64 0))⟩,
  ⟨some 22, none, .pick (.t 15) (.t 21) (.c (.bool false))⟩,
  ⟨some 4, none, .mv false (.t 22)⟩]
def span_Meet_f : LFunc := ⟨23, 2, [.tmp 4], (.seq (.ops span_Meet_r0) (.seq (.dops [0, 1, 0, 7, 15, 31] span_Meet_r1) (.seq (.ops span_Meet_r2) .ret)))⟩
def span_Meet_v : VFunc := ⟨span_Meet_f, true, false, false⟩
theorem span_Meet_ok : preFunc Tryd.prog ⟨[], [], [6, 8]⟩ Tryd.f101 [] = some span_Meet_f := by kernel_rfl

-- gantry/turn.Back
def turn_Back_r0 : List LOper := [
  ⟨some 1, none, .box (.t 0)⟩,
  ⟨some 2, none, .alloc [.bool false, .bool false, .str [], .str []]⟩]
def turn_Back_r1 : List LOper := [
  ⟨some 3, none, .load false true 4 (.t 1)⟩,
  ⟨some 4, none, .call false 139 [(.t 3)]⟩,
  ⟨none, none, .store 4 (.t 1) (.t 4)⟩]
def turn_Back_r2 : List LOper := [
  ⟨some 5, none, .fieldAddr 1 (.t 1)⟩,
  ⟨some 6, none, .load false true 3 (.t 5)⟩,
  ⟨some 7, none, .call false 66 [(.t 6)]⟩,
  ⟨some 8, none, .fieldAddr 1 (.t 1)⟩,
  ⟨none, none, .store 3 (.t 8) (.t 7)⟩]
def turn_Back_r3 : List LOper := [
  ⟨some 9, none, .load false true 4 (.t 1)⟩,
  ⟨none, none, .store 4 (.t 2) (.t 9)⟩]
def turn_Back_f : LFunc := ⟨10, 1, [.cell 2 true 4], (.seq (.ops turn_Back_r0) (.seq (.ops turn_Back_r1) (.seq (.ops turn_Back_r2) (.seq (.ops turn_Back_r3) .ret))))⟩
def turn_Back_v : VFunc := ⟨turn_Back_f, true, false, false⟩
theorem turn_Back_ok : preFunc Tryd.prog ⟨[], [], []⟩ Tryd.f103 [] = some turn_Back_f := by kernel_rfl

-- gantry/carry.turned
def carry_turned_r0 : List LOper := [
  ⟨some 2, none, .box (.t 0)⟩,
  ⟨some 3, none, .box (.t 1)⟩,
  ⟨some 4, none, .alloc [.bool false, .str [], .str [], .bool false, .str [], .str []]⟩,
  ⟨some 5, none, .mv false (.c (.int .i64 0))⟩]
def carry_turned_r1 : List LOper := [
  ⟨some 17, none, .load false true 6 (.t 2)⟩,
  ⟨some 18, none, .call false 142 [(.t 17)]⟩,
  ⟨some 16, none, .mv false (.t 18)⟩,
  ⟨some 19, none, .extract 0 (.t 16)⟩,
  ⟨some 20, none, .extract 1 (.t 16)⟩,
  ⟨some 6, none, .alloc [.bool false, .str [], .str []]⟩,
  ⟨some 7, none, .alloc [.bool false, .str [], .str []]⟩,
  ⟨none, none, .store 3 (.t 6) (.t 19)⟩,
  ⟨none, none, .store 3 (.t 7) (.t 20)⟩]
def carry_turned_r2 : List LOper := [
  ⟨some 22, none, .load false true 3 (.t 6)⟩,
  ⟨some 23, none, .load false true 3 (.t 3)⟩,
  ⟨some 24, none, .call false 143 [(.t 22), (.t 23)]⟩,
  ⟨some 21, none, .mv false (.t 24)⟩,
  ⟨some 25, none, .extract 0 (.t 21)⟩,
  ⟨some 26, none, .extract 1 (.t 21)⟩,
  ⟨some 8, none, .alloc [.bool false, .str [], .str []]⟩,
  ⟨some 9, none, .alloc [.bool false, .str [], .str []]⟩,
  ⟨none, none, .store 3 (.t 8) (.t 25)⟩,
  ⟨none, none, .store 3 (.t 9) (.t 26)⟩]
def carry_turned_r3 : List LOper := [
  ⟨some 28, none, .load false true 3 (.t 7)⟩,
  ⟨some 29, none, .load false true 3 (.t 3)⟩,
  ⟨some 30, none, .call false 143 [(.t 28), (.t 29)]⟩,
  ⟨some 27, none, .mv false (.t 30)⟩,
  ⟨some 31, none, .extract 0 (.t 27)⟩,
  ⟨some 32, none, .extract 1 (.t 27)⟩,
  ⟨some 10, none, .alloc [.bool false, .str [], .str []]⟩,
  ⟨some 11, none, .alloc [.bool false, .str [], .str []]⟩,
  ⟨none, none, .store 3 (.t 10) (.t 31)⟩,
  ⟨none, none, .store 3 (.t 11) (.t 32)⟩]
def carry_turned_r4 : List LOper := [
  ⟨some 33, none, .load false true 3 (.t 9)⟩,
  ⟨some 34, none, .call true 144 [(.t 33)]⟩,
  ⟨some 35, none, .load false true 3 (.t 11)⟩,
  ⟨some 36, none, .call true 144 [(.t 35)]⟩,
  ⟨some 37, none, .bin .mul (.t 34) (.t 36)⟩,
  ⟨some 38, none, .bin .leq (.t 37) (.c (.int .i64 0))⟩]
theorem carry_turned_r4_d : drawC [0, 1, 0, 7, 15, 31] [
  ⟨some 33, none, .load false true 3 (.t 9)⟩,
  ⟨some 34, none, .call true 144 [(.t 33)]⟩,
  ⟨some 35, none, .load false true 3 (.t 11)⟩,
  ⟨some 36, none, .call true 144 [(.t 35)]⟩,
  ⟨some 37, none, .bin .mul (.t 34) (.t 36)⟩,
  ⟨some 38, none, .bin .leq (.t 37) (.c (.int .i64 0))⟩] = true := by kernel_rfl
def carry_turned_r5 : List LOper := [
  ⟨some 39, none, .build [.bool false, .str [], .str [], .bool false, .str [], .str []] []⟩,
  ⟨none, none, .store 6 (.t 4) (.t 39)⟩,
  ⟨some 5, none, .mv false (.c (.int .i64 18))⟩]
def carry_turned_r6 : List LOper := [
  ⟨some 41, none, .load false true 3 (.t 8)⟩,
  ⟨some 42, none, .load false true 3 (.t 9)⟩,
  ⟨some 43, none, .call false 76 [(.t 41), (.t 42)]⟩,
  ⟨some 40, none, .mv false (.t 43)⟩,
  ⟨some 44, none, .extract 0 (.t 40)⟩,
  ⟨some 45, none, .extract 1 (.t 40)⟩,
  ⟨some 12, none, .alloc [.bool false, .str [], .str []]⟩,
  ⟨none, none, .store 3 (.t 12) (.t 44)⟩,
  ⟨some 13, none, .mv false (.t 45)⟩]
def carry_turned_r7 : List LOper := [
  ⟨some 47, none, .load false true 3 (.t 10)⟩,
  ⟨some 48, none, .load false true 3 (.t 11)⟩,
  ⟨some 49, none, .call false 76 [(.t 47), (.t 48)]⟩,
  ⟨some 46, none, .mv false (.t 49)⟩,
  ⟨some 50, none, .extract 0 (.t 46)⟩,
  ⟨some 51, none, .extract 1 (.t 46)⟩,
  ⟨some 14, none, .alloc [.bool false, .str [], .str []]⟩,
  ⟨none, none, .store 3 (.t 14) (.t 50)⟩,
  ⟨some 15, none, .mv false (.t 51)⟩]
def carry_turned_r8 : List LOper := [
  ⟨some 52, none, .load false true 3 (.t 12)⟩,
  ⟨some 53, none, .load false true 3 (.t 14)⟩,
  ⟨some 54, none, .build [.bool false, .str [], .str [], .bool false, .str [], .str []] [(0, 3, (.t 52)), (3, 3, (.t 53))]⟩,
  ⟨none, none, .store 6 (.t 4) (.t 54)⟩,
  ⟨some 5, none, .mv false (.c (.int .i64 0))⟩]
def carry_turned_f : LFunc := ⟨55, 2, [.cell 4 true 6, .tmp 5], (.seq (.ops carry_turned_r0) (.seq (.ops carry_turned_r1) (.seq (.ops carry_turned_r2) (.seq (.ops carry_turned_r3) (.seq (.seq (.dops [0, 1, 0, 7, 15, 31] carry_turned_r4) (.cond (.t 38) (.seq (.ops carry_turned_r5) .ret) .skip)) (.seq (.ops carry_turned_r6) (.seq (.ops carry_turned_r7) (.seq (.ops carry_turned_r8) .ret))))))))⟩
def carry_turned_v : VFunc := ⟨carry_turned_f, true, false, false⟩
theorem carry_turned_ok : preFunc Tryd.prog ⟨[], [], [34, 36]⟩ Tryd.f106 [] = some carry_turned_f := by kernel_rfl

-- gantry/carry.rotate
def carry_rotate_r0 : List LOper := [
  ⟨some 3, none, .box (.t 0)⟩,
  ⟨some 4, none, .box (.t 1)⟩,
  ⟨some 5, none, .box (.t 2)⟩,
  ⟨some 6, none, .alloc [.bool false, .str [], .str [], .bool false, .str [], .str []]⟩,
  ⟨some 7, none, .alloc [.bool false, .str [], .str [], .bool false, .str [], .str []]⟩]
def carry_rotate_r1 : List LOper := [
  ⟨some 10, none, .load false true 4 (.t 5)⟩,
  ⟨some 11, none, .call true 135 [(.t 10)]⟩,
  ⟨some 12, none, .call true 86 [(.t 11)]⟩,
  ⟨some 13, none, .load false true 4 (.t 5)⟩,
  ⟨some 14, none, .call true 132 [(.t 13)]⟩,
  ⟨some 15, none, .call true 86 [(.t 14)]⟩,
  ⟨some 8, none, .alloc [.bool false, .str [], .str [], .bool false, .str [], .str []]⟩,
  ⟨some 9, none, .alloc [.bool false, .str [], .str [], .bool false, .str [], .str []]⟩,
  ⟨none, none, .store 6 (.t 8) (.t 12)⟩,
  ⟨none, none, .store 6 (.t 9) (.t 15)⟩]
theorem carry_rotate_r1_d : drawC [0, 1, 3, 0, 15, 31, 0, 0, 255, 511] [
  ⟨some 10, none, .load false true 4 (.t 5)⟩,
  ⟨some 11, none, .call true 135 [(.t 10)]⟩,
  ⟨some 12, none, .call true 86 [(.t 11)]⟩,
  ⟨some 13, none, .load false true 4 (.t 5)⟩,
  ⟨some 14, none, .call true 132 [(.t 13)]⟩,
  ⟨some 15, none, .call true 86 [(.t 14)]⟩,
  ⟨some 8, none, .alloc [.bool false, .str [], .str [], .bool false, .str [], .str []]⟩,
  ⟨some 9, none, .alloc [.bool false, .str [], .str [], .bool false, .str [], .str []]⟩,
  ⟨none, none, .store 6 (.t 8) (.t 12)⟩,
  ⟨none, none, .store 6 (.t 9) (.t 15)⟩] = false ∧ drawW [0, 1, 3, 0, 15, 31, 0, 0, 255, 511] [
  ⟨some 10, none, .load false true 4 (.t 5)⟩,
  ⟨some 11, none, .call true 135 [(.t 10)]⟩,
  ⟨some 12, none, .call true 86 [(.t 11)]⟩,
  ⟨some 13, none, .load false true 4 (.t 5)⟩,
  ⟨some 14, none, .call true 132 [(.t 13)]⟩,
  ⟨some 15, none, .call true 86 [(.t 14)]⟩,
  ⟨some 8, none, .alloc [.bool false, .str [], .str [], .bool false, .str [], .str []]⟩,
  ⟨some 9, none, .alloc [.bool false, .str [], .str [], .bool false, .str [], .str []]⟩,
  ⟨none, none, .store 6 (.t 8) (.t 12)⟩,
  ⟨none, none, .store 6 (.t 9) (.t 15)⟩] = false ∧ isX [0, 1, 3, 0, 15, 31, 0, 0, 255, 511] [
  ⟨some 10, none, .load false true 4 (.t 5)⟩,
  ⟨some 11, none, .call true 135 [(.t 10)]⟩,
  ⟨some 12, none, .call true 86 [(.t 11)]⟩,
  ⟨some 13, none, .load false true 4 (.t 5)⟩,
  ⟨some 14, none, .call true 132 [(.t 13)]⟩,
  ⟨some 15, none, .call true 86 [(.t 14)]⟩,
  ⟨some 8, none, .alloc [.bool false, .str [], .str [], .bool false, .str [], .str []]⟩,
  ⟨some 9, none, .alloc [.bool false, .str [], .str [], .bool false, .str [], .str []]⟩,
  ⟨none, none, .store 6 (.t 8) (.t 12)⟩,
  ⟨none, none, .store 6 (.t 9) (.t 15)⟩] = false ∧ allocPair [0, 1, 3, 0, 15, 31, 0, 0, 255, 511] [
  ⟨some 10, none, .load false true 4 (.t 5)⟩,
  ⟨some 11, none, .call true 135 [(.t 10)]⟩,
  ⟨some 12, none, .call true 86 [(.t 11)]⟩,
  ⟨some 13, none, .load false true 4 (.t 5)⟩,
  ⟨some 14, none, .call true 132 [(.t 13)]⟩,
  ⟨some 15, none, .call true 86 [(.t 14)]⟩,
  ⟨some 8, none, .alloc [.bool false, .str [], .str [], .bool false, .str [], .str []]⟩,
  ⟨some 9, none, .alloc [.bool false, .str [], .str [], .bool false, .str [], .str []]⟩,
  ⟨none, none, .store 6 (.t 8) (.t 12)⟩,
  ⟨none, none, .store 6 (.t 9) (.t 15)⟩] = some (6, 7) ∧ drawY [0, 1, 3, 0, 15, 31, 0, 0, 255, 511] [
  ⟨some 10, none, .load false true 4 (.t 5)⟩,
  ⟨some 11, none, .call true 135 [(.t 10)]⟩,
  ⟨some 12, none, .call true 86 [(.t 11)]⟩,
  ⟨some 13, none, .load false true 4 (.t 5)⟩,
  ⟨some 14, none, .call true 132 [(.t 13)]⟩,
  ⟨some 15, none, .call true 86 [(.t 14)]⟩,
  ⟨some 8, none, .alloc [.bool false, .str [], .str [], .bool false, .str [], .str []]⟩,
  ⟨some 9, none, .alloc [.bool false, .str [], .str [], .bool false, .str [], .str []]⟩,
  ⟨none, none, .store 6 (.t 8) (.t 12)⟩,
  ⟨none, none, .store 6 (.t 9) (.t 15)⟩] 6 7 = true ∧ moveTo 6 7 [
  ⟨some 10, none, .load false true 4 (.t 5)⟩,
  ⟨some 11, none, .call true 135 [(.t 10)]⟩,
  ⟨some 12, none, .call true 86 [(.t 11)]⟩,
  ⟨some 13, none, .load false true 4 (.t 5)⟩,
  ⟨some 14, none, .call true 132 [(.t 13)]⟩,
  ⟨some 15, none, .call true 86 [(.t 14)]⟩,
  ⟨some 8, none, .alloc [.bool false, .str [], .str [], .bool false, .str [], .str []]⟩,
  ⟨some 9, none, .alloc [.bool false, .str [], .str [], .bool false, .str [], .str []]⟩,
  ⟨none, none, .store 6 (.t 8) (.t 12)⟩,
  ⟨none, none, .store 6 (.t 9) (.t 15)⟩] = [
  ⟨some 10, none, .load false true 4 (.t 5)⟩,
  ⟨some 11, none, .call true 135 [(.t 10)]⟩,
  ⟨some 12, none, .call true 86 [(.t 11)]⟩,
  ⟨some 13, none, .load false true 4 (.t 5)⟩,
  ⟨some 14, none, .call true 132 [(.t 13)]⟩,
  ⟨some 15, none, .call true 86 [(.t 14)]⟩,
  ⟨some 9, none, .alloc [.bool false, .str [], .str [], .bool false, .str [], .str []]⟩,
  ⟨some 8, none, .alloc [.bool false, .str [], .str [], .bool false, .str [], .str []]⟩,
  ⟨none, none, .store 6 (.t 8) (.t 12)⟩,
  ⟨none, none, .store 6 (.t 9) (.t 15)⟩] := ⟨by kernel_rfl, by kernel_rfl, by kernel_rfl, by kernel_rfl, by kernel_rfl, by kernel_rfl⟩
def carry_rotate_r2 : List LOper := [
  ⟨some 16, none, .load false true 6 (.t 8)⟩,
  ⟨some 17, none, .load false true 6 (.t 3)⟩,
  ⟨some 18, none, .call true 89 [(.t 16), (.t 17)]⟩,
  ⟨some 19, none, .load false true 6 (.t 9)⟩,
  ⟨some 20, none, .load false true 6 (.t 4)⟩,
  ⟨some 21, none, .call true 89 [(.t 19), (.t 20)]⟩,
  ⟨some 22, none, .call true 88 [(.t 18), (.t 21)]⟩,
  ⟨some 23, none, .load false true 6 (.t 9)⟩,
  ⟨some 24, none, .load false true 6 (.t 3)⟩,
  ⟨some 25, none, .call true 89 [(.t 23), (.t 24)]⟩,
  ⟨some 26, none, .load false true 6 (.t 8)⟩,
  ⟨some 27, none, .load false true 6 (.t 4)⟩,
  ⟨some 28, none, .call true 89 [(.t 26), (.t 27)]⟩,
  ⟨some 29, none, .call true 87 [(.t 25), (.t 28)]⟩,
  ⟨none, none, .store 6 (.t 6) (.t 22)⟩,
  ⟨none, none, .store 6 (.t 7) (.t 29)⟩]
theorem carry_rotate_r2_d : drawC [0, 0, 3, 0, 0, 31, 63, 0, 0, 511, 0, 0, 4095, 8191, 16383, 32767] [
  ⟨some 16, none, .load false true 6 (.t 8)⟩,
  ⟨some 17, none, .load false true 6 (.t 3)⟩,
  ⟨some 18, none, .call true 89 [(.t 16), (.t 17)]⟩,
  ⟨some 19, none, .load false true 6 (.t 9)⟩,
  ⟨some 20, none, .load false true 6 (.t 4)⟩,
  ⟨some 21, none, .call true 89 [(.t 19), (.t 20)]⟩,
  ⟨some 22, none, .call true 88 [(.t 18), (.t 21)]⟩,
  ⟨some 23, none, .load false true 6 (.t 9)⟩,
  ⟨some 24, none, .load false true 6 (.t 3)⟩,
  ⟨some 25, none, .call true 89 [(.t 23), (.t 24)]⟩,
  ⟨some 26, none, .load false true 6 (.t 8)⟩,
  ⟨some 27, none, .load false true 6 (.t 4)⟩,
  ⟨some 28, none, .call true 89 [(.t 26), (.t 27)]⟩,
  ⟨some 29, none, .call true 87 [(.t 25), (.t 28)]⟩,
  ⟨none, none, .store 6 (.t 6) (.t 22)⟩,
  ⟨none, none, .store 6 (.t 7) (.t 29)⟩] = true := by kernel_rfl
def carry_rotate_f : LFunc := ⟨30, 3, [.cell 6 true 6, .cell 7 true 6], (.seq (.ops carry_rotate_r0) (.seq (.dops [0, 1, 3, 0, 15, 31, 0, 0, 255, 511] carry_rotate_r1) (.seq (.dops [0, 0, 3, 0, 0, 31, 63, 0, 0, 511, 0, 0, 4095, 8191, 16383, 32767] carry_rotate_r2) .ret)))⟩
def carry_rotate_v : VFunc := ⟨carry_rotate_f, true, false, false⟩
theorem carry_rotate_ok : preFunc Tryd.prog ⟨[], [], [11, 12, 14, 15, 18, 21, 22, 25, 28, 29]⟩ Tryd.f107 [] = some carry_rotate_f := by kernel_rfl

-- gantry/rat.Mul
def rat_Mul_r0 : List LOper := [
  ⟨some 2, none, .box (.t 0)⟩,
  ⟨some 3, none, .box (.t 1)⟩,
  ⟨some 4, none, .alloc [.bool false, .str [], .str []]⟩]
def rat_Mul_r1 : List LOper := [
  ⟨some 5, none, .load false true 3 (.t 2)⟩,
  ⟨some 6, none, .call true 67 [(.t 5)]⟩,
  ⟨some 7, none, .load false true 3 (.t 3)⟩,
  ⟨some 8, none, .call true 67 [(.t 7)]⟩,
  ⟨none, none, .store 3 (.t 2) (.t 6)⟩,
  ⟨none, none, .store 3 (.t 3) (.t 8)⟩]
theorem rat_Mul_r1_d : drawC [0, 1, 0, 7, 15, 31] [
  ⟨some 5, none, .load false true 3 (.t 2)⟩,
  ⟨some 6, none, .call true 67 [(.t 5)]⟩,
  ⟨some 7, none, .load false true 3 (.t 3)⟩,
  ⟨some 8, none, .call true 67 [(.t 7)]⟩,
  ⟨none, none, .store 3 (.t 2) (.t 6)⟩,
  ⟨none, none, .store 3 (.t 3) (.t 8)⟩] = true := by kernel_rfl
def rat_Mul_r2 : List LOper := [
  ⟨some 9, none, .fieldAddr 0 (.t 2)⟩,
  ⟨some 10, none, .load false false 1 (.t 9)⟩,
  ⟨some 11, none, .fieldAddr 0 (.t 3)⟩,
  ⟨some 12, none, .load false false 1 (.t 11)⟩,
  ⟨some 13, none, .eqv true .bool (.t 10) (.t 12)⟩,
  ⟨some 14, none, .fieldAddr 1 (.t 2)⟩,
  ⟨some 15, none, .load false false 1 (.t 14)⟩,
  ⟨some 16, none, .fieldAddr 1 (.t 3)⟩,
  ⟨some 17, none, .load false false 1 (.t 16)⟩,
  ⟨some 18, none, .call true 70 [(.t 15), (.t 17)]⟩,
  ⟨some 19, none, .fieldAddr 2 (.t 2)⟩,
  ⟨some 20, none, .load false false 1 (.t 19)⟩,
  ⟨some 21, none, .fieldAddr 2 (.t 3)⟩,
  ⟨some 22, none, .load false false 1 (.t 21)⟩,
  ⟨some 23, none, .call true 70 [(.t 20), (.t 22)]⟩,
  ⟨some 24, none, .call true 69 [(.t 13), (.t 18), (.t 23)]⟩,
  ⟨none, none, .store 3 (.t 4) (.t 24)⟩]
theorem rat_Mul_r2_d : drawC [0, 1, 0, 4, 15, 0, 32, 0, 128, 480, 0, 1024, 0, 4096, 16352, 32767, 65535] [
  ⟨some 9, none, .fieldAddr 0 (.t 2)⟩,
  ⟨some 10, none, .load false false 1 (.t 9)⟩,
  ⟨some 11, none, .fieldAddr 0 (.t 3)⟩,
  ⟨some 12, none, .load false false 1 (.t 11)⟩,
  ⟨some 13, none, .eqv true .bool (.t 10) (.t 12)⟩,
  ⟨some 14, none, .fieldAddr 1 (.t 2)⟩,
  ⟨some 15, none, .load false false 1 (.t 14)⟩,
  ⟨some 16, none, .fieldAddr 1 (.t 3)⟩,
  ⟨some 17, none, .load false false 1 (.t 16)⟩,
  ⟨some 18, none, .call true 70 [(.t 15), (.t 17)]⟩,
  ⟨some 19, none, .fieldAddr 2 (.t 2)⟩,
  ⟨some 20, none, .load false false 1 (.t 19)⟩,
  ⟨some 21, none, .fieldAddr 2 (.t 3)⟩,
  ⟨some 22, none, .load false false 1 (.t 21)⟩,
  ⟨some 23, none, .call true 70 [(.t 20), (.t 22)]⟩,
  ⟨some 24, none, .call true 69 [(.t 13), (.t 18), (.t 23)]⟩,
  ⟨none, none, .store 3 (.t 4) (.t 24)⟩] = true := by kernel_rfl
def rat_Mul_f : LFunc := ⟨25, 2, [.cell 4 true 3], (.seq (.ops rat_Mul_r0) (.seq (.dops [0, 1, 0, 7, 15, 31] rat_Mul_r1) (.seq (.dops [0, 1, 0, 4, 15, 0, 32, 0, 128, 480, 0, 1024, 0, 4096, 16352, 32767, 65535] rat_Mul_r2) .ret)))⟩
def rat_Mul_v : VFunc := ⟨rat_Mul_f, true, false, false⟩
theorem rat_Mul_ok : preFunc Tryd.prog ⟨[], [], [6, 8, 18, 23, 24]⟩ Tryd.f112 [] = some rat_Mul_f := by kernel_rfl

-- gantry/span.fit
def span_fit_r0 : List LOper := [
  ⟨some 1, none, .box (.t 0)⟩,
  ⟨some 2, none, .alloc [.bool false, .str [], .str [], .bool false, .str [], .str []]⟩]
def span_fit_r1 : List LOper := [
  ⟨some 3, none, .load false true 6 (.t 1)⟩,
  ⟨some 4, none, .call false 126 [(.t 3)]⟩,
  ⟨some 5, none, .un .not (.t 4)⟩]
def span_fit_r2 : List LOper := [
  ⟨some 6, none, .call false 41 [(.c (.int .i64 0))]⟩,
  ⟨some 7, none, .call false 86 [(.t 6)]⟩,
  ⟨none, none, .store 6 (.t 2) (.t 7)⟩]
def span_fit_r3 : List LOper := [
  ⟨some 8, none, .load false true 6 (.t 1)⟩,
  ⟨none, none, .store 6 (.t 2) (.t 8)⟩]
def span_fit_f : LFunc := ⟨9, 1, [.cell 2 true 6], (.seq (.ops span_fit_r0) (.seq (.seq (.ops span_fit_r1) (.cond (.t 5) (.seq (.ops span_fit_r2) .ret) .skip)) (.seq (.ops span_fit_r3) .ret)))⟩
def span_fit_v : VFunc := ⟨span_fit_f, true, false, false⟩
theorem span_fit_ok : preFunc Tryd.prog ⟨[], [], []⟩ Tryd.f113 [] = some span_fit_f := by kernel_rfl

-- slices.Reverse[[]byte,byte]
def slices_Reverse_bytebyte_r0 : List LOper := [
  ⟨some 4, none, .mv false (.t 0)⟩,
  ⟨some 5, none, .lenL (.t 4)⟩,
  ⟨some 6, none, .bin .sub (.t 5) (.c (.int .i64 1))⟩,
  ⟨some 2, none, .mv false (.c (.int .i64 0))⟩,
  ⟨some 3, none, .mv false (.t 6)⟩]
def slices_Reverse_bytebyte_r1 : List LOper := [
  ⟨some 7, none, .mv false (.t 2)⟩,
  ⟨some 8, none, .mv false (.t 3)⟩,
  ⟨some 9, none, .bin .lss (.t 7) (.t 8)⟩]
def slices_Reverse_bytebyte_r2 : List LOper := [
  ⟨some 14, none, .mv false (.t 0)⟩,
  ⟨some 15, none, .mv false (.t 2)⟩,
  ⟨some 16, none, .mv false (.t 0)⟩,
  ⟨some 17, none, .mv false (.t 3)⟩,
  ⟨some 18, none, .mv false (.t 0)⟩,
  ⟨some 19, none, .mv false (.t 3)⟩,
  ⟨some 20, none, .indexAddr 1 (.t 18) (.t 19)⟩,
  ⟨some 21, none, .load false false 1 (.t 20)⟩,
  ⟨some 22, none, .mv false (.t 0)⟩,
  ⟨some 23, none, .mv false (.t 2)⟩,
  ⟨some 24, none, .indexAddr 1 (.t 22) (.t 23)⟩,
  ⟨some 25, none, .load false false 1 (.t 24)⟩,
  ⟨some 26, none, .indexAddr 1 (.t 14) (.t 15)⟩,
  ⟨none, none, .store 1 (.t 26) (.t 21)⟩,
  ⟨some 27, none, .indexAddr 1 (.t 16) (.t 17)⟩,
  ⟨none, none, .store 1 (.t 27) (.t 25)⟩]
theorem slices_Reverse_bytebyte_r2_d : drawC [0, 0, 0, 0, 0, 0, 48, 112, 0, 0, 768, 1792, 4083, 8179, 16383, 32767] [
  ⟨some 14, none, .mv false (.t 0)⟩,
  ⟨some 15, none, .mv false (.t 2)⟩,
  ⟨some 16, none, .mv false (.t 0)⟩,
  ⟨some 17, none, .mv false (.t 3)⟩,
  ⟨some 18, none, .mv false (.t 0)⟩,
  ⟨some 19, none, .mv false (.t 3)⟩,
  ⟨some 20, none, .indexAddr 1 (.t 18) (.t 19)⟩,
  ⟨some 21, none, .load false false 1 (.t 20)⟩,
  ⟨some 22, none, .mv false (.t 0)⟩,
  ⟨some 23, none, .mv false (.t 2)⟩,
  ⟨some 24, none, .indexAddr 1 (.t 22) (.t 23)⟩,
  ⟨some 25, none, .load false false 1 (.t 24)⟩,
  ⟨some 26, none, .indexAddr 1 (.t 14) (.t 15)⟩,
  ⟨none, none, .store 1 (.t 26) (.t 21)⟩,
  ⟨some 27, none, .indexAddr 1 (.t 16) (.t 17)⟩,
  ⟨none, none, .store 1 (.t 27) (.t 25)⟩] = true := by kernel_rfl
def slices_Reverse_bytebyte_r3 : List LOper := [
  ⟨some 10, none, .mv false (.t 2)⟩,
  ⟨some 11, none, .bin .add (.t 10) (.c (.int .i64 1))⟩,
  ⟨some 12, none, .mv false (.t 3)⟩,
  ⟨some 13, none, .bin .sub (.t 12) (.c (.int .i64 1))⟩,
  ⟨some 2, none, .mv false (.t 11)⟩,
  ⟨some 3, none, .mv false (.t 13)⟩]
def slices_Reverse_bytebyte_b0 : LCode := (.seq (.seq (.ops slices_Reverse_bytebyte_r1) (.cond (.t 9) .skip (.exit 0))) (.seq (.block 1 (.dops [0, 0, 0, 0, 0, 0, 48, 112, 0, 0, 768, 1792, 4083, 8179, 16383, 32767] slices_Reverse_bytebyte_r2)) (.ops slices_Reverse_bytebyte_r3)))
def slices_Reverse_bytebyte_f : LFunc := ⟨28, 1, [], (.seq (.ops slices_Reverse_bytebyte_r0) (.block 0 (.loop [0, 2, 3] slices_Reverse_bytebyte_b0)))⟩
def slices_Reverse_bytebyte_v : VFunc := ⟨slices_Reverse_bytebyte_f, true, false, false⟩
theorem slices_Reverse_bytebyte_ok : preFunc Tryd.prog ⟨[], [], []⟩ Tryd.f114 [[0, 2, 3]] = some slices_Reverse_bytebyte_f := by kernel_rfl

-- gantry/rat.Good
def rat_Good_r0 : List LOper := [
  ⟨some 1, none, .box (.t 0)⟩,
  ⟨some 2, none, .mv false (.c (.bool false))⟩]
def rat_Good_r1 : List LOper := [
  ⟨some 3, none, .fieldAddr 2 (.t 1)⟩,
  ⟨some 4, none, .load false false 1 (.t 3)⟩,
  ⟨some 5, none, .bin .eql (.t 4) (.c (.str []))⟩,
  ⟨some 6, none, .mv false (.t 5)⟩,
  ⟨some 7, some (6, false), .fieldAddr 2 (.t 1)⟩,
  ⟨some 8, some (6, false), .load false false 1 (.t 7)⟩,
  ⟨some 9, some (6, false), .index (.t 8) (.c (.int .i64 0))⟩,
  ⟨some 10, some (6, false), .bin .eql (.t 9) (.c (.int .u8 0))⟩,
  ⟨some 11, none, .pick (.t 6) (.c (.bool true)) (.t 10)⟩,
  ⟨some 12, none, .mv false (.t 11)⟩,
  ⟨some 13, some (12, false), .fieldAddr 1 (.t 1)⟩,
  ⟨some 14, some (12, false), .load false false 1 (.t 13)⟩,
  ⟨some 15, some (12, false), .bin .eql (.t 14) (.c (.str []))⟩,
  ⟨some 16, some (12, false), .mv false (.t 15)⟩,
  ⟨some 17, some (16, true), .fieldAddr 0 (.t 1)⟩,
  ⟨some 18, some (16, true), .load false false 1 (.t 17)⟩,
  ⟨some 19, some (16, true), .mv false (.t 18)⟩,
  ⟨some 20, some (19, false), .fieldAddr 2 (.t 1)⟩,
  ⟨some 21, some (19, false), .load false false 1 (.t 20)⟩,
  ⟨some 22, some (19, false), .bin .neq (.t 21) (.c (.str [1]))⟩,
  ⟨some 23, some (16, true), .pick (.t 19) (.c (.bool true)) (.t 22)⟩,
  ⟨some 24, some (12, false), .pick (.t 16) (.t 23) (.c (.bool false))⟩,
  ⟨some 25, none, .pick (.t 12) (.c (.bool true)) (.t 24)⟩,
  ⟨some 26, none, .mv false (.t 25)⟩,
  ⟨some 27, some (26, false), .fieldAddr 1 (.t 1)⟩,
  ⟨some 28, some (26, false), .load false false 1 (.t 27)⟩,
  ⟨some 29, some (26, false), .bin .neq (.t 28) (.c (.str []))⟩,
  ⟨some 30, some (26, false), .mv false (.t 29)⟩,
  ⟨some 31, some (30, true), .fieldAddr 1 (.t 1)⟩,
  ⟨some 32, some (30, true), .load false false 1 (.t 31)⟩,
  ⟨some 33, some (30, true), .index (.t 32) (.c (.int .i64 0))⟩,
  ⟨some 34, some (30, true), .bin .eql (.t 33) (.c (.int .u8 0))⟩,
  ⟨some 35, some (26, false), .pick (.t 30) (.t 34) (.c (.bool false))⟩,
  ⟨some 36, none, .pick (.t 26) (.c (.bool true)) (.t 35)⟩]
def rat_Good_r2 : List LOper := [
  ⟨some 2, none, .mv false (.c (.bool false))⟩]
def rat_Good_r3 : List LOper := [
  ⟨some 37, none, .fieldAddr 2 (.t 1)⟩,
  ⟨some 38, none, .load false false 1 (.t 37)⟩,
  ⟨some 39, none, .bin .eql (.t 38) (.c (.str [1]))⟩,
  ⟨some 40, none, .mv false (.t 39)⟩,
  ⟨some 41, some (40, false), .fieldAddr 1 (.t 1)⟩,
  ⟨some 42, some (40, false), .load false false 1 (.t 41)⟩,
  ⟨some 43, some (40, false), .fieldAddr 2 (.t 1)⟩,
  ⟨some 44, some (40, false), .load false false 1 (.t 43)⟩,
  ⟨some 45, some (40, false), .call false 118 [(.t 42), (.t 44)]⟩,
  ⟨some 46, some (40, false), .bin .eql (.t 45) (.c (.str [1]))⟩,
  ⟨some 47, none, .pick (.t 40) (.c (.bool true)) (.t 46)⟩,
  ⟨some 2, none, .mv false (.t 47)⟩]
def rat_Good_f : LFunc := ⟨48, 1, [.tmp 2], (.seq (.ops rat_Good_r0) (.seq (.seq (.ops rat_Good_r1) (.cond (.t 36) (.seq (.ops rat_Good_r2) .ret) .skip)) (.seq (.ops rat_Good_r3) .ret)))⟩
def rat_Good_v : VFunc := ⟨rat_Good_f, true, false, false⟩
theorem rat_Good_ok : preFunc Tryd.prog ⟨[], [], []⟩ Tryd.f115 [] = some rat_Good_f := by kernel_rfl

-- gantry/rat.zero
def rat_zero_r0 : List LOper := [
  ⟨some 0, none, .alloc [.bool false, .str [], .str []]⟩]
def rat_zero_r1 : List LOper := [
  ⟨some 1, none, .build [.bool false, .str [], .str []] [(2, 1, (.c (.str [1])))]⟩,
  ⟨none, none, .store 3 (.t 0) (.t 1)⟩]
def rat_zero_f : LFunc := ⟨2, 0, [.cell 0 true 3], (.seq (.ops rat_zero_r0) (.seq (.ops rat_zero_r1) .ret))⟩
def rat_zero_v : VFunc := ⟨rat_zero_f, true, false, false⟩
theorem rat_zero_ok : preFunc Tryd.prog ⟨[], [], []⟩ Tryd.f116 [] = some rat_zero_f := by kernel_rfl

-- gantry/nat.Sub
def nat_Sub_r0 : List LOper := [
  ⟨some 4, none, .mv false (.c (.str []))⟩,
  ⟨some 5, none, .mv false (.c (.int .i64 0))⟩]
def nat_Sub_r1 : List LOper := [
  ⟨some 8, none, .mv false (.t 0)⟩,
  ⟨some 9, none, .mv false (.t 1)⟩,
  ⟨some 10, none, .call false 73 [(.t 8), (.t 9)]⟩,
  ⟨some 11, none, .bin .lss (.t 10) (.c (.int .i64 0))⟩]
def nat_Sub_r2 : List LOper := [
  ⟨some 4, none, .mv false (.c (.str []))⟩,
  ⟨some 5, none, .mv false (.c (.int .i64 1))⟩]
def nat_Sub_r3 : List LOper := [
  ⟨some 12, none, .mv false (.t 0)⟩,
  ⟨some 13, none, .call false 123 [(.t 12)]⟩,
  ⟨some 14, none, .mv false (.t 1)⟩,
  ⟨some 15, none, .call false 123 [(.t 14)]⟩,
  ⟨some 6, none, .mv false (.t 13)⟩,
  ⟨some 7, none, .mv false (.t 15)⟩]
def nat_Sub_r4 : List LOper := [
  ⟨some 16, none, .mv false (.t 6)⟩,
  ⟨some 17, none, .mv false (.t 7)⟩,
  ⟨some 18, none, .call false 149 [(.t 16), (.t 17)]⟩]
def nat_Sub_r5 : List LOper := [
  ⟨some 19, none, .mv false (.t 6)⟩,
  ⟨some 20, none, .call false 124 [(.t 19)]⟩,
  ⟨some 4, none, .mv false (.t 20)⟩,
  ⟨some 5, none, .mv false (.c (.int .i64 0))⟩]
def nat_Sub_f : LFunc := ⟨21, 2, [.tmp 4, .tmp 5], (.seq (.ops nat_Sub_r0) (.seq (.seq (.ops nat_Sub_r1) (.cond (.t 11) (.seq (.ops nat_Sub_r2) .ret) .skip)) (.seq (.ops nat_Sub_r3) (.seq (.ops nat_Sub_r4) (.seq (.ops nat_Sub_r5) .ret)))))⟩
def nat_Sub_v : VFunc := ⟨nat_Sub_f, true, false, false⟩
theorem nat_Sub_ok : preFunc Tryd.prog ⟨[], [], []⟩ Tryd.f117 [] = some nat_Sub_f := by kernel_rfl

-- gantry/nat.Gcd
def nat_Gcd_r0 : List LOper := [
  ⟨some 4, none, .mv false (.c (.str []))⟩]
def nat_Gcd_r1 : List LOper := [
  ⟨some 8, none, .mv false (.t 0)⟩,
  ⟨some 9, none, .call false 120 [(.t 8)]⟩,
  ⟨some 10, none, .mv false (.t 1)⟩,
  ⟨some 11, none, .call false 120 [(.t 10)]⟩,
  ⟨some 0, none, .mv false (.t 9)⟩,
  ⟨some 1, none, .mv false (.t 11)⟩]
def nat_Gcd_r2 : List LOper := [
  ⟨some 12, none, .mv false (.t 0)⟩,
  ⟨some 13, none, .bin .neq (.t 12) (.c (.str []))⟩,
  ⟨some 14, none, .mv false (.t 13)⟩,
  ⟨some 15, some (14, true), .mv false (.t 1)⟩,
  ⟨some 16, some (14, true), .bin .neq (.t 15) (.c (.str []))⟩,
  ⟨some 17, none, .pick (.t 14) (.t 16) (.c (.bool false))⟩]
def nat_Gcd_r3 : List LOper := [
  ⟨some 18, none, .mv false (.t 0)⟩,
  ⟨some 19, none, .lenS (.t 18)⟩,
  ⟨some 20, none, .mv false (.t 1)⟩,
  ⟨some 21, none, .lenS (.t 20)⟩,
  ⟨some 22, none, .bin .lss (.t 19) (.t 21)⟩]
def nat_Gcd_r4 : List LOper := [
  ⟨some 23, none, .mv false (.t 1)⟩,
  ⟨some 24, none, .mv false (.t 0)⟩,
  ⟨some 0, none, .mv false (.t 23)⟩,
  ⟨some 1, none, .mv false (.t 24)⟩]
def nat_Gcd_r5 : List LOper := [
  ⟨some 26, none, .mv false (.t 0)⟩,
  ⟨some 27, none, .lenS (.t 26)⟩,
  ⟨some 28, none, .bin .leq (.t 27) (.c (.int .i64 8))⟩,
  ⟨some 25, none, .mv false (.t 28)⟩]
def nat_Gcd_r6 : List LOper := [
  ⟨some 29, none, .mv false (.t 0)⟩,
  ⟨some 30, none, .call false 122 [(.t 29)]⟩,
  ⟨some 31, none, .mv false (.t 1)⟩,
  ⟨some 32, none, .call false 122 [(.t 31)]⟩,
  ⟨some 33, none, .call false 150 [(.t 30), (.t 32)]⟩,
  ⟨some 34, none, .call false 121 [(.t 33)]⟩,
  ⟨some 4, none, .mv false (.t 34)⟩]
def nat_Gcd_r7 : List LOper := [
  ⟨some 36, none, .mv false (.t 0)⟩,
  ⟨some 37, none, .lenS (.t 36)⟩,
  ⟨some 38, none, .mv false (.t 1)⟩,
  ⟨some 39, none, .lenS (.t 38)⟩,
  ⟨some 40, none, .bin .add (.t 39) (.c (.int .i64 8))⟩,
  ⟨some 41, none, .bin .leq (.t 37) (.t 40)⟩,
  ⟨some 35, none, .mv false (.t 41)⟩]
def nat_Gcd_r8 : List LOper := [
  ⟨some 42, none, .mv false (.t 0)⟩,
  ⟨some 43, none, .mv false (.t 1)⟩,
  ⟨some 44, none, .call false 151 [(.t 42), (.t 43)]⟩,
  ⟨some 4, none, .mv false (.t 44)⟩]
def nat_Gcd_r9 : List LOper := [
  ⟨some 46, none, .mv false (.t 0)⟩,
  ⟨some 47, none, .mv false (.t 1)⟩,
  ⟨some 48, none, .call false 119 [(.t 46), (.t 47)]⟩,
  ⟨some 45, none, .mv false (.t 48)⟩,
  ⟨some 49, none, .extract 0 (.t 45)⟩,
  ⟨some 50, none, .extract 1 (.t 45)⟩,
  ⟨some 51, none, .extract 2 (.t 45)⟩,
  ⟨some 5, none, .mv false (.t 49)⟩,
  ⟨some 6, none, .mv false (.t 50)⟩,
  ⟨some 7, none, .mv false (.t 51)⟩]
def nat_Gcd_r10 : List LOper := [
  ⟨some 52, none, .mv false (.t 1)⟩,
  ⟨some 53, none, .mv false (.t 6)⟩,
  ⟨some 0, none, .mv false (.t 52)⟩,
  ⟨some 1, none, .mv false (.t 53)⟩]
def nat_Gcd_b0 : LCode := (.seq (.seq (.ops nat_Gcd_r2) (.cond (.t 17) .skip (.exit 0))) (.block 1 (.seq (.seq (.ops nat_Gcd_r3) (.cond (.t 22) (.ops nat_Gcd_r4) .skip)) (.seq (.block 2 (.seq (.ops nat_Gcd_r5) (.cond (.t 25) (.seq (.ops nat_Gcd_r6) .ret) (.seq (.ops nat_Gcd_r7) (.cond (.t 35) (.seq (.ops nat_Gcd_r8) .ret) .skip))))) (.seq (.ops nat_Gcd_r9) (.ops nat_Gcd_r10))))))
def nat_Gcd_r11 : List LOper := [
  ⟨some 54, none, .mv false (.t 0)⟩,
  ⟨some 55, none, .mv false (.t 1)⟩,
  ⟨some 56, none, .bin .add (.t 54) (.t 55)⟩,
  ⟨some 4, none, .mv false (.t 56)⟩]
def nat_Gcd_f : LFunc := ⟨57, 2, [.tmp 4], (.seq (.ops nat_Gcd_r0) (.seq (.ops nat_Gcd_r1) (.seq (.block 0 (.loop [0, 1] nat_Gcd_b0)) (.seq (.ops nat_Gcd_r11) .ret))))⟩
def nat_Gcd_v : VFunc := ⟨nat_Gcd_f, true, false, false⟩
theorem nat_Gcd_ok : preFunc Tryd.prog ⟨[], [], []⟩ Tryd.f118 [[0, 1]] = some nat_Gcd_f := by kernel_rfl

-- gantry/nat.Div
def nat_Div_r0 : List LOper := [
  ⟨some 4, none, .mv false (.c (.str []))⟩,
  ⟨some 5, none, .mv false (.c (.str []))⟩,
  ⟨some 6, none, .mv false (.c (.int .i64 0))⟩]
def nat_Div_r1 : List LOper := [
  ⟨some 13, none, .mv false (.t 0)⟩,
  ⟨some 14, none, .call false 120 [(.t 13)]⟩,
  ⟨some 15, none, .mv false (.t 1)⟩,
  ⟨some 16, none, .call false 120 [(.t 15)]⟩,
  ⟨some 0, none, .mv false (.t 14)⟩,
  ⟨some 1, none, .mv false (.t 16)⟩]
def nat_Div_r2 : List LOper := [
  ⟨some 18, none, .mv false (.t 1)⟩,
  ⟨some 19, none, .bin .eql (.t 18) (.c (.str []))⟩,
  ⟨some 17, none, .mv false (.t 19)⟩]
def nat_Div_r3 : List LOper := [
  ⟨some 4, none, .mv false (.c (.str []))⟩,
  ⟨some 5, none, .mv false (.c (.str []))⟩,
  ⟨some 6, none, .mv false (.c (.int .i64 12))⟩]
def nat_Div_r4 : List LOper := [
  ⟨some 21, none, .mv false (.t 0)⟩,
  ⟨some 22, none, .lenS (.t 21)⟩,
  ⟨some 23, none, .bin .leq (.t 22) (.c (.int .i64 8))⟩,
  ⟨some 24, none, .mv false (.t 23)⟩,
  ⟨some 25, some (24, true), .mv false (.t 1)⟩,
  ⟨some 26, some (24, true), .lenS (.t 25)⟩,
  ⟨some 27, some (24, true), .bin .leq (.t 26) (.c (.int .i64 8))⟩,
  ⟨some 28, none, .pick (.t 24) (.t 27) (.c (.bool false))⟩,
  ⟨some 20, none, .mv false (.t 28)⟩]
def nat_Div_r5 : List LOper := [
  ⟨some 29, none, .mv false (.t 0)⟩,
  ⟨some 30, none, .call false 122 [(.t 29)]⟩,
  ⟨some 31, none, .mv false (.t 1)⟩,
  ⟨some 32, none, .call false 122 [(.t 31)]⟩,
  ⟨some 33, none, .bin .quo (.t 30) (.t 32)⟩,
  ⟨some 34, none, .call false 121 [(.t 33)]⟩,
  ⟨some 35, none, .mv false (.t 0)⟩,
  ⟨some 36, none, .call false 122 [(.t 35)]⟩,
  ⟨some 37, none, .mv false (.t 1)⟩,
  ⟨some 38, none, .call false 122 [(.t 37)]⟩,
  ⟨some 39, none, .bin .rem (.t 36) (.t 38)⟩,
  ⟨some 40, none, .call false 121 [(.t 39)]⟩,
  ⟨some 4, none, .mv false (.t 34)⟩,
  ⟨some 5, none, .mv false (.t 40)⟩,
  ⟨some 6, none, .mv false (.c (.int .i64 0))⟩]
def nat_Div_r6 : List LOper := [
  ⟨some 42, none, .mv false (.t 0)⟩,
  ⟨some 43, none, .mv false (.t 1)⟩,
  ⟨some 44, none, .call false 73 [(.t 42), (.t 43)]⟩,
  ⟨some 45, none, .bin .lss (.t 44) (.c (.int .i64 0))⟩,
  ⟨some 41, none, .mv false (.t 45)⟩]
def nat_Div_r7 : List LOper := [
  ⟨some 46, none, .mv false (.t 0)⟩,
  ⟨some 4, none, .mv false (.c (.str []))⟩,
  ⟨some 5, none, .mv false (.t 46)⟩,
  ⟨some 6, none, .mv false (.c (.int .i64 0))⟩]
def nat_Div_r8 : List LOper := [
  ⟨some 47, none, .mv false (.t 0)⟩,
  ⟨some 48, none, .call false 123 [(.t 47)]⟩,
  ⟨some 49, none, .mv false (.t 1)⟩,
  ⟨some 50, none, .call false 123 [(.t 49)]⟩,
  ⟨some 7, none, .mv false (.t 48)⟩,
  ⟨some 8, none, .mv false (.t 50)⟩]
def nat_Div_r9 : List LOper := [
  ⟨some 51, none, .mv false (.t 8)⟩,
  ⟨some 52, none, .lenL (.t 51)⟩,
  ⟨some 53, none, .bin .eql (.t 52) (.c (.int .i64 1))⟩]
def nat_Div_r10 : List LOper := [
  ⟨some 9, none, .mv false (.c (.int .u64 0))⟩]
def nat_Div_r11 : List LOper := [
  ⟨some 54, none, .mv false (.t 7)⟩,
  ⟨some 55, none, .lenL (.t 54)⟩,
  ⟨some 56, none, .bin .sub (.t 55) (.c (.int .i64 1))⟩,
  ⟨some 10, none, .mv false (.t 56)⟩]
def nat_Div_r12 : List LOper := [
  ⟨some 57, none, .mv false (.t 10)⟩,
  ⟨some 58, none, .bin .geq (.t 57) (.c (.int .i64 0))⟩]
def nat_Div_r13 : List LOper := [
  ⟨some 61, none, .mv false (.t 9)⟩,
  ⟨some 62, none, .bin .shl (.t 61) (.c (.int .u64 32))⟩,
  ⟨some 63, none, .mv false (.t 7)⟩,
  ⟨some 64, none, .mv false (.t 10)⟩,
  ⟨some 65, none, .indexAddr 1 (.t 63) (.t 64)⟩,
  ⟨some 66, none, .load false false 1 (.t 65)⟩,
  ⟨some 67, none, .conv .u64 (.t 66)⟩,
  ⟨some 68, none, .bin .or (.t 62) (.t 67)⟩,
  ⟨some 9, none, .mv false (.t 68)⟩]
def nat_Div_r14 : List LOper := [
  ⟨some 69, none, .mv false (.t 7)⟩,
  ⟨some 70, none, .mv false (.t 10)⟩,
  ⟨some 71, none, .mv false (.t 9)⟩,
  ⟨some 72, none, .mv false (.t 8)⟩,
  ⟨some 73, none, .indexAddr 1 (.t 72) (.c (.int .i64 0))⟩,
  ⟨some 74, none, .load false false 1 (.t 73)⟩,
  ⟨some 75, none, .conv .u64 (.t 74)⟩,
  ⟨some 76, none, .bin .quo (.t 71) (.t 75)⟩,
  ⟨some 77, none, .conv .u32 (.t 76)⟩,
  ⟨some 78, none, .mv false (.t 9)⟩,
  ⟨some 79, none, .mv false (.t 8)⟩,
  ⟨some 80, none, .indexAddr 1 (.t 79) (.c (.int .i64 0))⟩,
  ⟨some 81, none, .load false false 1 (.t 80)⟩,
  ⟨some 82, none, .conv .u64 (.t 81)⟩,
  ⟨some 83, none, .bin .rem (.t 78) (.t 82)⟩,
  ⟨some 84, none, .indexAddr 1 (.t 69) (.t 70)⟩,
  ⟨none, none, .store 1 (.t 84) (.t 77)⟩,
  ⟨some 9, none, .mv false (.t 83)⟩]
theorem nat_Div_r14_d : drawC [0, 0, 0, 0, 8, 24, 56, 124, 252, 0, 0, 1024, 3072, 7168, 15872, 7679, 40447, 131071] [
  ⟨some 69, none, .mv false (.t 7)⟩,
  ⟨some 70, none, .mv false (.t 10)⟩,
  ⟨some 71, none, .mv false (.t 9)⟩,
  ⟨some 72, none, .mv false (.t 8)⟩,
  ⟨some 73, none, .indexAddr 1 (.t 72) (.c (.int .i64 0))⟩,
  ⟨some 74, none, .load false false 1 (.t 73)⟩,
  ⟨some 75, none, .conv .u64 (.t 74)⟩,
  ⟨some 76, none, .bin .quo (.t 71) (.t 75)⟩,
  ⟨some 77, none, .conv .u32 (.t 76)⟩,
  ⟨some 78, none, .mv false (.t 9)⟩,
  ⟨some 79, none, .mv false (.t 8)⟩,
  ⟨some 80, none, .indexAddr 1 (.t 79) (.c (.int .i64 0))⟩,
  ⟨some 81, none, .load false false 1 (.t 80)⟩,
  ⟨some 82, none, .conv .u64 (.t 81)⟩,
  ⟨some 83, none, .bin .rem (.t 78) (.t 82)⟩,
  ⟨some 84, none, .indexAddr 1 (.t 69) (.t 70)⟩,
  ⟨none, none, .store 1 (.t 84) (.t 77)⟩,
  ⟨some 9, none, .mv false (.t 83)⟩] = true := by kernel_rfl
def nat_Div_r15 : List LOper := [
  ⟨some 59, none, .mv false (.t 10)⟩,
  ⟨some 60, none, .bin .sub (.t 59) (.c (.int .i64 1))⟩,
  ⟨some 10, none, .mv false (.t 60)⟩]
def nat_Div_b0 : LCode := (.seq (.seq (.ops nat_Div_r12) (.cond (.t 58) .skip (.exit 1))) (.seq (.block 2 (.seq (.ops nat_Div_r13) (.dops [0, 0, 0, 0, 8, 24, 56, 124, 252, 0, 0, 1024, 3072, 7168, 15872, 7679, 40447, 131071] nat_Div_r14))) (.ops nat_Div_r15)))
def nat_Div_r16 : List LOper := [
  ⟨some 85, none, .mv false (.t 7)⟩,
  ⟨some 86, none, .call false 124 [(.t 85)]⟩,
  ⟨some 87, none, .mv false (.t 9)⟩,
  ⟨some 88, none, .call false 121 [(.t 87)]⟩,
  ⟨some 4, none, .mv false (.t 86)⟩,
  ⟨some 5, none, .mv false (.t 88)⟩,
  ⟨some 6, none, .mv false (.c (.int .i64 0))⟩]
def nat_Div_r17 : List LOper := [
  ⟨some 90, none, .mv false (.t 7)⟩,
  ⟨some 91, none, .mv false (.t 8)⟩,
  ⟨some 92, none, .call false 152 [(.t 90), (.t 91)]⟩,
  ⟨some 89, none, .mv false (.t 92)⟩,
  ⟨some 93, none, .extract 0 (.t 89)⟩,
  ⟨some 94, none, .extract 1 (.t 89)⟩,
  ⟨some 11, none, .mv false (.t 93)⟩,
  ⟨some 12, none, .mv false (.t 94)⟩]
def nat_Div_r18 : List LOper := [
  ⟨some 95, none, .mv false (.t 11)⟩,
  ⟨some 96, none, .call false 124 [(.t 95)]⟩,
  ⟨some 97, none, .mv false (.t 12)⟩,
  ⟨some 98, none, .call false 124 [(.t 97)]⟩,
  ⟨some 4, none, .mv false (.t 96)⟩,
  ⟨some 5, none, .mv false (.t 98)⟩,
  ⟨some 6, none, .mv false (.c (.int .i64 0))⟩]
def nat_Div_f : LFunc := ⟨99, 2, [.tmp 4, .tmp 5, .tmp 6], (.seq (.ops nat_Div_r0) (.seq (.ops nat_Div_r1) (.seq (.block 0 (.seq (.ops nat_Div_r2) (.cond (.t 17) (.seq (.ops nat_Div_r3) .ret) (.seq (.ops nat_Div_r4) (.cond (.t 20) (.seq (.ops nat_Div_r5) .ret) (.seq (.ops nat_Div_r6) (.cond (.t 41) (.seq (.ops nat_Div_r7) .ret) .skip))))))) (.seq (.ops nat_Div_r8) (.seq (.seq (.ops nat_Div_r9) (.cond (.t 53) (.seq (.ops nat_Div_r10) (.seq (.seq (.ops nat_Div_r11) (.block 1 (.loop [7, 8, 9, 10] nat_Div_b0))) (.seq (.ops nat_Div_r16) .ret))) .skip)) (.seq (.ops nat_Div_r17) (.seq (.ops nat_Div_r18) .ret)))))))⟩
def nat_Div_v : VFunc := ⟨nat_Div_f, true, false, false⟩
theorem nat_Div_ok : preFunc Tryd.prog ⟨[], [], []⟩ Tryd.f119 [[7, 8, 9, 10]] = some nat_Div_f := by kernel_rfl

-- gantry/nat.trim
def nat_trim_r0 : List LOper := [
  ⟨some 2, none, .mv false (.c (.str []))⟩]
def nat_trim_r1 : List LOper := [
  ⟨some 3, none, .mv false (.t 0)⟩,
  ⟨some 4, none, .lenS (.t 3)⟩,
  ⟨some 5, none, .bin .gtr (.t 4) (.c (.int .i64 0))⟩,
  ⟨some 6, none, .mv false (.t 5)⟩,
  ⟨some 7, some (6, true), .mv false (.t 0)⟩,
  ⟨some 8, some (6, true), .index (.t 7) (.c (.int .i64 0))⟩,
  ⟨some 9, some (6, true), .bin .eql (.t 8) (.c (.int .u8 0))⟩,
  ⟨some 10, none, .pick (.t 6) (.t 9) (.c (.bool false))⟩]
def nat_trim_r2 : List LOper := [
  ⟨some 11, none, .mv false (.t 0)⟩,
  ⟨some 12, none, .slc 0 (.t 11) (some (.c (.int .i64 1))) none none⟩,
  ⟨some 0, none, .mv false (.t 12)⟩]
def nat_trim_b0 : LCode := (.seq (.seq (.ops nat_trim_r1) (.cond (.t 10) .skip (.exit 0))) (.block 1 (.ops nat_trim_r2)))
def nat_trim_r3 : List LOper := [
  ⟨some 13, none, .mv false (.t 0)⟩,
  ⟨some 2, none, .mv false (.t 13)⟩]
def nat_trim_f : LFunc := ⟨14, 1, [.tmp 2], (.seq (.ops nat_trim_r0) (.seq (.block 0 (.loop [0] nat_trim_b0)) (.seq (.ops nat_trim_r3) .ret)))⟩
def nat_trim_v : VFunc := ⟨nat_trim_f, true, false, false⟩
theorem nat_trim_ok : preFunc Tryd.prog ⟨[], [], []⟩ Tryd.f120 [[0]] = some nat_trim_f := by kernel_rfl

-- gantry/nat.fromShort
def nat_fromShort_r0 : List LOper := [
  ⟨some 2, none, .mv false (.c (.str []))⟩]
def nat_fromShort_r1 : List LOper := [
  ⟨some 3, none, .alloc [.int .u8 0, .int .u8 0, .int .u8 0, .int .u8 0, .int .u8 0, .int .u8 0, .int .u8 0, .int .u8 0]⟩]
def nat_fromShort_r2 : List LOper := [
  ⟨some 5, none, .mv false (.c (.int .i64 0))⟩]
def nat_fromShort_r3 : List LOper := [
  ⟨some 6, none, .bin .lss (.t 5) (.c (.int .i64 8))⟩]
def nat_fromShort_r4 : List LOper := [
  ⟨some 7, none, .mv false (.t 5)⟩,
  ⟨some 4, none, .mv false (.t 7)⟩]
def nat_fromShort_r5 : List LOper := [
  ⟨some 8, none, .mv false (.t 4)⟩,
  ⟨some 9, none, .mv false (.t 0)⟩,
  ⟨some 10, none, .mv false (.t 4)⟩,
  ⟨some 11, none, .bin .mul (.c (.int .i64 8)) (.t 10)⟩,
  ⟨some 12, none, .bin .sub (.c (.int .i64 56)) (.t 11)⟩,
  ⟨some 13, none, .bin .shr (.t 9) (.t 12)⟩,
  ⟨some 14, none, .conv .u8 (.t 13)⟩,
  ⟨some 15, none, .indexAddrA 8 1 (.t 3) (.t 8)⟩,
  ⟨none, none, .store 1 (.t 15) (.t 14)⟩]
def nat_fromShort_r6 : List LOper := [
  ⟨some 16, none, .bin .add (.t 5) (.c (.int .i64 1))⟩,
  ⟨some 5, none, .mv false (.t 16)⟩]
def nat_fromShort_b0 : LCode := (.seq (.ops nat_fromShort_r3) (.seq (.cond (.t 6) .skip (.exit 0)) (.seq (.block 1 (.seq (.ops nat_fromShort_r4) (.ops nat_fromShort_r5))) (.ops nat_fromShort_r6))))
def nat_fromShort_r7 : List LOper := [
  ⟨some 17, none, .slcA 8 1 (.t 3) none none⟩,
  ⟨some 18, none, .b2s (.t 17)⟩,
  ⟨some 19, none, .call false 120 [(.t 18)]⟩,
  ⟨some 2, none, .mv false (.t 19)⟩]
def nat_fromShort_f : LFunc := ⟨20, 1, [.tmp 2], (.seq (.ops nat_fromShort_r0) (.seq (.ops nat_fromShort_r1) (.seq (.seq (.ops nat_fromShort_r2) (.block 0 (.loop [0, 3, 5] nat_fromShort_b0))) (.seq (.ops nat_fromShort_r7) .ret))))⟩
def nat_fromShort_v : VFunc := ⟨nat_fromShort_f, true, false, false⟩
theorem nat_fromShort_ok : preFunc Tryd.prog ⟨[], [], []⟩ Tryd.f121 [[0, 3, 5]] = some nat_fromShort_f := by kernel_rfl

-- gantry/nat.short
def nat_short_r0 : List LOper := [
  ⟨some 2, none, .mv false (.c (.int .u64 0))⟩]
def nat_short_r1 : List LOper := [
  ⟨some 3, none, .mv false (.c (.int .u64 0))⟩]
def nat_short_r2 : List LOper := [
  ⟨some 5, none, .mv false (.t 0)⟩,
  ⟨some 6, none, .lenS (.t 5)⟩,
  ⟨some 7, none, .mv false (.c (.int .i64 0))⟩]
def nat_short_r3 : List LOper := [
  ⟨some 8, none, .bin .lss (.t 7) (.t 6)⟩]
def nat_short_r4 : List LOper := [
  ⟨some 9, none, .mv false (.t 7)⟩,
  ⟨some 4, none, .mv false (.t 9)⟩]
def nat_short_r5 : List LOper := [
  ⟨some 10, none, .mv false (.t 3)⟩,
  ⟨some 11, none, .bin .shl (.t 10) (.c (.int .u64 8))⟩,
  ⟨some 12, none, .mv false (.t 0)⟩,
  ⟨some 13, none, .mv false (.t 4)⟩,
  ⟨some 14, none, .index (.t 12) (.t 13)⟩,
  ⟨some 15, none, .conv .u64 (.t 14)⟩,
  ⟨some 16, none, .bin .or (.t 11) (.t 15)⟩,
  ⟨some 3, none, .mv false (.t 16)⟩]
def nat_short_r6 : List LOper := [
  ⟨some 17, none, .bin .add (.t 7) (.c (.int .i64 1))⟩,
  ⟨some 7, none, .mv false (.t 17)⟩]
def nat_short_b0 : LCode := (.seq (.ops nat_short_r3) (.seq (.cond (.t 8) .skip (.exit 0)) (.seq (.block 1 (.seq (.ops nat_short_r4) (.ops nat_short_r5))) (.ops nat_short_r6))))
def nat_short_r7 : List LOper := [
  ⟨some 18, none, .mv false (.t 3)⟩,
  ⟨some 2, none, .mv false (.t 18)⟩]
def nat_short_f : LFunc := ⟨19, 1, [.tmp 2], (.seq (.ops nat_short_r0) (.seq (.ops nat_short_r1) (.seq (.seq (.ops nat_short_r2) (.block 0 (.loop [0, 3, 6, 7] nat_short_b0))) (.seq (.ops nat_short_r7) .ret))))⟩
def nat_short_v : VFunc := ⟨nat_short_f, true, false, false⟩
theorem nat_short_ok : preFunc Tryd.prog ⟨[], [], []⟩ Tryd.f122 [[0, 3, 6, 7]] = some nat_short_f := by kernel_rfl

-- gantry/nat.words
def nat_words_r0 : List LOper := [
  ⟨some 2, none, .mv false (.c (.nilslice))⟩]
def nat_words_r1 : List LOper := [
  ⟨some 6, none, .mv false (.t 0)⟩,
  ⟨some 7, none, .call false 120 [(.t 6)]⟩,
  ⟨some 0, none, .mv false (.t 7)⟩]
def nat_words_r2 : List LOper := [
  ⟨some 8, none, .mv false (.t 0)⟩,
  ⟨some 9, none, .lenS (.t 8)⟩,
  ⟨some 10, none, .bin .add (.t 9) (.c (.int .i64 3))⟩,
  ⟨some 11, none, .bin .quo (.t 10) (.c (.int .i64 4))⟩,
  ⟨some 12, none, .make true 1 4 [.int .u32 0] (.t 11) (.t 11)⟩,
  ⟨some 3, none, .mv false (.t 12)⟩]
def nat_words_r3 : List LOper := [
  ⟨some 13, none, .mv false (.t 0)⟩,
  ⟨some 14, none, .lenS (.t 13)⟩,
  ⟨some 15, none, .mv false (.c (.int .i64 0))⟩]
def nat_words_r4 : List LOper := [
  ⟨some 16, none, .bin .lss (.t 15) (.t 14)⟩]
def nat_words_r5 : List LOper := [
  ⟨some 17, none, .mv false (.t 15)⟩,
  ⟨some 4, none, .mv false (.t 17)⟩]
def nat_words_r6 : List LOper := [
  ⟨some 18, none, .mv false (.t 0)⟩,
  ⟨some 19, none, .lenS (.t 18)⟩,
  ⟨some 20, none, .bin .sub (.t 19) (.c (.int .i64 1))⟩,
  ⟨some 21, none, .mv false (.t 4)⟩,
  ⟨some 22, none, .bin .sub (.t 20) (.t 21)⟩,
  ⟨some 5, none, .mv false (.t 22)⟩]
def nat_words_r7 : List LOper := [
  ⟨some 23, none, .mv false (.t 3)⟩,
  ⟨some 24, none, .mv false (.t 4)⟩,
  ⟨some 25, none, .bin .quo (.t 24) (.c (.int .i64 4))⟩,
  ⟨some 26, none, .indexAddr 1 (.t 23) (.t 25)⟩,
  ⟨some 27, none, .load false false 1 (.t 26)⟩,
  ⟨some 28, none, .mv false (.t 0)⟩,
  ⟨some 29, none, .mv false (.t 5)⟩,
  ⟨some 30, none, .index (.t 28) (.t 29)⟩,
  ⟨some 31, none, .conv .u32 (.t 30)⟩,
  ⟨some 32, none, .mv false (.t 4)⟩,
  ⟨some 33, none, .bin .rem (.t 32) (.c (.int .i64 4))⟩,
  ⟨some 34, none, .bin .mul (.t 33) (.c (.int .i64 8))⟩,
  ⟨some 35, none, .bin .shl (.t 31) (.t 34)⟩,
  ⟨some 36, none, .bin .or (.t 27) (.t 35)⟩,
  ⟨some 37, none, .indexAddr 1 (.t 23) (.t 25)⟩,
  ⟨none, none, .store 1 (.t 37) (.t 36)⟩]
theorem nat_words_r7_d : drawC [0, 0, 2, 7, 15, 0, 0, 96, 224, 0, 512, 1536, 4064, 8191, 16383, 32767] [
  ⟨some 23, none, .mv false (.t 3)⟩,
  ⟨some 24, none, .mv false (.t 4)⟩,
  ⟨some 25, none, .bin .quo (.t 24) (.c (.int .i64 4))⟩,
  ⟨some 26, none, .indexAddr 1 (.t 23) (.t 25)⟩,
  ⟨some 27, none, .load false false 1 (.t 26)⟩,
  ⟨some 28, none, .mv false (.t 0)⟩,
  ⟨some 29, none, .mv false (.t 5)⟩,
  ⟨some 30, none, .index (.t 28) (.t 29)⟩,
  ⟨some 31, none, .conv .u32 (.t 30)⟩,
  ⟨some 32, none, .mv false (.t 4)⟩,
  ⟨some 33, none, .bin .rem (.t 32) (.c (.int .i64 4))⟩,
  ⟨some 34, none, .bin .mul (.t 33) (.c (.int .i64 8))⟩,
  ⟨some 35, none, .bin .shl (.t 31) (.t 34)⟩,
  ⟨some 36, none, .bin .or (.t 27) (.t 35)⟩,
  ⟨some 37, none, .indexAddr 1 (.t 23) (.t 25)⟩,
  ⟨none, none, .store 1 (.t 37) (.t 36)⟩] = true := by kernel_rfl
def nat_words_r8 : List LOper := [
  ⟨some 38, none, .bin .add (.t 15) (.c (.int .i64 1))⟩,
  ⟨some 15, none, .mv false (.t 38)⟩]
def nat_words_b0 : LCode := (.seq (.ops nat_words_r4) (.seq (.cond (.t 16) .skip (.exit 0)) (.seq (.block 1 (.seq (.ops nat_words_r5) (.seq (.ops nat_words_r6) (.dops [0, 0, 2, 7, 15, 0, 0, 96, 224, 0, 512, 1536, 4064, 8191, 16383, 32767] nat_words_r7)))) (.ops nat_words_r8))))
def nat_words_r9 : List LOper := [
  ⟨some 39, none, .mv false (.t 3)⟩,
  ⟨some 2, none, .mv false (.t 39)⟩]
def nat_words_f : LFunc := ⟨40, 1, [.tmp 2], (.seq (.ops nat_words_r0) (.seq (.ops nat_words_r1) (.seq (.ops nat_words_r2) (.seq (.seq (.ops nat_words_r3) (.block 0 (.loop [0, 3, 14, 15] nat_words_b0))) (.seq (.ops nat_words_r9) .ret)))))⟩
def nat_words_v : VFunc := ⟨nat_words_f, false, false, true⟩
theorem nat_words_ok : preFunc Tryd.prog ⟨[], [], []⟩ Tryd.f123 [[0, 3, 14, 15]] = some nat_words_f := by kernel_rfl

-- gantry/nat.text
def nat_text_r0 : List LOper := [
  ⟨some 2, none, .mv false (.c (.str []))⟩]
def nat_text_r1 : List LOper := [
  ⟨some 7, none, .mv false (.t 0)⟩,
  ⟨some 8, none, .lenL (.t 7)⟩,
  ⟨some 9, none, .bin .mul (.c (.int .i64 4)) (.t 8)⟩,
  ⟨some 10, none, .make true 1 1 [.int .u8 0] (.t 9) (.t 9)⟩,
  ⟨some 3, none, .mv false (.t 10)⟩]
def nat_text_r2 : List LOper := [
  ⟨some 11, none, .mv false (.t 0)⟩,
  ⟨some 12, none, .lenL (.t 11)⟩,
  ⟨some 13, none, .mv false (.c (.int .i64 0))⟩]
def nat_text_r3 : List LOper := [
  ⟨some 14, none, .bin .lss (.t 13) (.t 12)⟩]
def nat_text_r4 : List LOper := [
  ⟨some 15, none, .mv false (.t 13)⟩,
  ⟨some 16, none, .indexAddr 1 (.t 11) (.t 13)⟩,
  ⟨some 17, none, .load false false 1 (.t 16)⟩,
  ⟨some 4, none, .mv false (.t 15)⟩,
  ⟨some 5, none, .mv false (.t 17)⟩]
def nat_text_r5 : List LOper := [
  ⟨some 18, none, .mv false (.t 0)⟩,
  ⟨some 19, none, .lenL (.t 18)⟩,
  ⟨some 20, none, .bin .sub (.t 19) (.c (.int .i64 1))⟩,
  ⟨some 21, none, .mv false (.t 4)⟩,
  ⟨some 22, none, .bin .sub (.t 20) (.t 21)⟩,
  ⟨some 23, none, .bin .mul (.c (.int .i64 4)) (.t 22)⟩,
  ⟨some 6, none, .mv false (.t 23)⟩]
def nat_text_r6 : List LOper := [
  ⟨some 24, none, .mv false (.t 3)⟩,
  ⟨some 25, none, .mv false (.t 6)⟩,
  ⟨some 26, none, .mv false (.t 3)⟩,
  ⟨some 27, none, .mv false (.t 6)⟩,
  ⟨some 28, none, .bin .add (.t 27) (.c (.int .i64 1))⟩,
  ⟨some 29, none, .mv false (.t 3)⟩,
  ⟨some 30, none, .mv false (.t 6)⟩,
  ⟨some 31, none, .bin .add (.t 30) (.c (.int .i64 2))⟩,
  ⟨some 32, none, .mv false (.t 3)⟩,
  ⟨some 33, none, .mv false (.t 6)⟩,
  ⟨some 34, none, .bin .add (.t 33) (.c (.int .i64 3))⟩,
  ⟨some 35, none, .mv false (.t 5)⟩,
  ⟨some 36, none, .bin .shr (.t 35) (.c (.int .u64 24))⟩,
  ⟨some 37, none, .conv .u8 (.t 36)⟩,
  ⟨some 38, none, .mv false (.t 5)⟩,
  ⟨some 39, none, .bin .shr (.t 38) (.c (.int .u64 16))⟩,
  ⟨some 40, none, .conv .u8 (.t 39)⟩,
  ⟨some 41, none, .mv false (.t 5)⟩,
  ⟨some 42, none, .bin .shr (.t 41) (.c (.int .u64 8))⟩,
  ⟨some 43, none, .conv .u8 (.t 42)⟩,
  ⟨some 44, none, .mv false (.t 5)⟩,
  ⟨some 45, none, .conv .u8 (.t 44)⟩,
  ⟨some 46, none, .indexAddr 1 (.t 24) (.t 25)⟩,
  ⟨none, none, .store 1 (.t 46) (.t 37)⟩,
  ⟨some 47, none, .indexAddr 1 (.t 26) (.t 28)⟩,
  ⟨none, none, .store 1 (.t 47) (.t 40)⟩,
  ⟨some 48, none, .indexAddr 1 (.t 29) (.t 31)⟩,
  ⟨none, none, .store 1 (.t 48) (.t 43)⟩,
  ⟨some 49, none, .indexAddr 1 (.t 32) (.t 34)⟩,
  ⟨none, none, .store 1 (.t 49) (.t 45)⟩]
def nat_text_r7 : List LOper := [
  ⟨some 50, none, .bin .add (.t 13) (.c (.int .i64 1))⟩,
  ⟨some 13, none, .mv false (.t 50)⟩]
def nat_text_b0 : LCode := (.seq (.ops nat_text_r3) (.seq (.cond (.t 14) .skip (.exit 0)) (.seq (.block 1 (.seq (.ops nat_text_r4) (.seq (.ops nat_text_r5) (.ops nat_text_r6)))) (.ops nat_text_r7))))
def nat_text_r8 : List LOper := [
  ⟨some 51, none, .mv false (.t 3)⟩,
  ⟨some 52, none, .b2s (.t 51)⟩,
  ⟨some 53, none, .call false 120 [(.t 52)]⟩,
  ⟨some 2, none, .mv false (.t 53)⟩]
def nat_text_f : LFunc := ⟨54, 1, [.tmp 2], (.seq (.ops nat_text_r0) (.seq (.ops nat_text_r1) (.seq (.seq (.ops nat_text_r2) (.block 0 (.loop [0, 3, 11, 12, 13] nat_text_b0))) (.seq (.ops nat_text_r8) .ret))))⟩
def nat_text_v : VFunc := ⟨nat_text_f, false, false, false⟩
theorem nat_text_ok : preFunc Tryd.prog ⟨[], [], []⟩ Tryd.f124 [[0, 3, 11, 12, 13]] = some nat_text_f := by kernel_rfl

-- strings.Compare
def strings_Compare_r0 : List LOper := [
  ⟨some 4, none, .mv false (.c (.int .i64 0))⟩]
def strings_Compare_r1 : List LOper := [
  ⟨some 5, none, .mv false (.t 0)⟩,
  ⟨some 6, none, .mv false (.t 1)⟩,
  ⟨some 7, none, .call false 153 [(.t 5), (.t 6)]⟩,
  ⟨some 4, none, .mv false (.t 7)⟩]
def strings_Compare_f : LFunc := ⟨8, 2, [.tmp 4], (.seq (.ops strings_Compare_r0) (.seq (.ops strings_Compare_r1) .ret))⟩
def strings_Compare_v : VFunc := ⟨strings_Compare_f, true, false, false⟩
theorem strings_Compare_ok : preFunc Tryd.prog ⟨[], [], []⟩ Tryd.f125 [] = some strings_Compare_f := by kernel_rfl

-- gantry/span.Good
def span_Good_r0 : List LOper := [
  ⟨some 1, none, .box (.t 0)⟩,
  ⟨some 2, none, .mv false (.c (.bool false))⟩]
def span_Good_r1 : List LOper := [
  ⟨some 3, none, .fieldAddr 0 (.t 1)⟩,
  ⟨some 4, none, .load false true 3 (.t 3)⟩,
  ⟨some 5, none, .call false 115 [(.t 4)]⟩,
  ⟨some 6, none, .mv false (.t 5)⟩,
  ⟨some 7, some (6, true), .fieldAddr 3 (.t 1)⟩,
  ⟨some 8, some (6, true), .load false true 3 (.t 7)⟩,
  ⟨some 9, some (6, true), .call false 115 [(.t 8)]⟩,
  ⟨some 10, none, .pick (.t 6) (.t 9) (.c (.bool false))⟩,
  ⟨some 11, none, .mv false (.t 10)⟩,
  ⟨some 12, some (11, true), .fieldAddr 0 (.t 1)⟩,
  ⟨some 13, some (11, true), .load false true 3 (.t 12)⟩,
  ⟨some 14, some (11, true), .fieldAddr 3 (.t 1)⟩,
  ⟨some 15, some (11, true), .load false true 3 (.t 14)⟩,
  ⟨some 16, some (11, true), .call false 26 [(.t 13), (.t 15)]⟩,
  ⟨some 17, some (11, true), .bin .leq (.t 16) (.c (.int .i64 0))⟩,
  ⟨some 18, none, .pick (.t 11) (.t 17) (.c (.bool false))⟩,
  ⟨some 2, none, .mv false (.t 18)⟩]
def span_Good_f : LFunc := ⟨19, 1, [.tmp 2], (.seq (.ops span_Good_r0) (.seq (.ops span_Good_r1) .ret))⟩
def span_Good_v : VFunc := ⟨span_Good_f, true, false, false⟩
theorem span_Good_ok : preFunc Tryd.prog ⟨[], [], []⟩ Tryd.f126 [] = some span_Good_f := by kernel_rfl

-- gantry/turn.Sin
def turn_Sin_r0 : List LOper := [
  ⟨some 1, none, .box (.t 0)⟩,
  ⟨some 2, none, .alloc [.bool false, .str [], .str []]⟩]
def turn_Sin_r1 : List LOper := [
  ⟨some 5, none, .load false true 4 (.t 1)⟩,
  ⟨some 6, none, .call false 139 [(.t 5)]⟩,
  ⟨none, none, .store 4 (.t 1) (.t 6)⟩]
def turn_Sin_r2 : List LOper := [
  ⟨some 8, none, .fieldAddr 1 (.t 1)⟩,
  ⟨some 9, none, .load false true 3 (.t 8)⟩,
  ⟨some 10, none, .fieldAddr 1 (.t 1)⟩,
  ⟨some 11, none, .load false true 3 (.t 10)⟩,
  ⟨some 12, none, .call true 23 [(.t 9), (.t 11)]⟩,
  ⟨some 13, none, .call true 41 [(.c (.int .i64 1))]⟩,
  ⟨some 14, none, .fieldAddr 1 (.t 1)⟩,
  ⟨some 15, none, .load false true 3 (.t 14)⟩,
  ⟨some 16, none, .fieldAddr 1 (.t 1)⟩,
  ⟨some 17, none, .load false true 3 (.t 16)⟩,
  ⟨some 18, none, .call true 112 [(.t 15), (.t 17)]⟩,
  ⟨some 19, none, .call true 23 [(.t 13), (.t 18)]⟩,
  ⟨some 20, none, .call true 76 [(.t 12), (.t 19)]⟩,
  ⟨some 7, none, .mv false (.t 20)⟩,
  ⟨some 21, none, .extract 0 (.t 7)⟩,
  ⟨some 22, none, .extract 1 (.t 7)⟩,
  ⟨some 3, none, .alloc [.bool false, .str [], .str []]⟩,
  ⟨none, none, .store 3 (.t 3) (.t 21)⟩,
  ⟨some 4, none, .mv false (.t 22)⟩]
theorem turn_Sin_r2_d : drawC [0, 1, 0, 4, 15, 31, 0, 64, 0, 256, 1023, 2047, 4095, 8191, 16383, 16383, 0, 98303, 262143] [
  ⟨some 8, none, .fieldAddr 1 (.t 1)⟩,
  ⟨some 9, none, .load false true 3 (.t 8)⟩,
  ⟨some 10, none, .fieldAddr 1 (.t 1)⟩,
  ⟨some 11, none, .load false true 3 (.t 10)⟩,
  ⟨some 12, none, .call true 23 [(.t 9), (.t 11)]⟩,
  ⟨some 13, none, .call true 41 [(.c (.int .i64 1))]⟩,
  ⟨some 14, none, .fieldAddr 1 (.t 1)⟩,
  ⟨some 15, none, .load false true 3 (.t 14)⟩,
  ⟨some 16, none, .fieldAddr 1 (.t 1)⟩,
  ⟨some 17, none, .load false true 3 (.t 16)⟩,
  ⟨some 18, none, .call true 112 [(.t 15), (.t 17)]⟩,
  ⟨some 19, none, .call true 23 [(.t 13), (.t 18)]⟩,
  ⟨some 20, none, .call true 76 [(.t 12), (.t 19)]⟩,
  ⟨some 7, none, .mv false (.t 20)⟩,
  ⟨some 21, none, .extract 0 (.t 7)⟩,
  ⟨some 22, none, .extract 1 (.t 7)⟩,
  ⟨some 3, none, .alloc [.bool false, .str [], .str []]⟩,
  ⟨none, none, .store 3 (.t 3) (.t 21)⟩,
  ⟨some 4, none, .mv false (.t 22)⟩] = false ∧ drawW [0, 1, 0, 4, 15, 31, 0, 64, 0, 256, 1023, 2047, 4095, 8191, 16383, 16383, 0, 98303, 262143] [
  ⟨some 8, none, .fieldAddr 1 (.t 1)⟩,
  ⟨some 9, none, .load false true 3 (.t 8)⟩,
  ⟨some 10, none, .fieldAddr 1 (.t 1)⟩,
  ⟨some 11, none, .load false true 3 (.t 10)⟩,
  ⟨some 12, none, .call true 23 [(.t 9), (.t 11)]⟩,
  ⟨some 13, none, .call true 41 [(.c (.int .i64 1))]⟩,
  ⟨some 14, none, .fieldAddr 1 (.t 1)⟩,
  ⟨some 15, none, .load false true 3 (.t 14)⟩,
  ⟨some 16, none, .fieldAddr 1 (.t 1)⟩,
  ⟨some 17, none, .load false true 3 (.t 16)⟩,
  ⟨some 18, none, .call true 112 [(.t 15), (.t 17)]⟩,
  ⟨some 19, none, .call true 23 [(.t 13), (.t 18)]⟩,
  ⟨some 20, none, .call true 76 [(.t 12), (.t 19)]⟩,
  ⟨some 7, none, .mv false (.t 20)⟩,
  ⟨some 21, none, .extract 0 (.t 7)⟩,
  ⟨some 22, none, .extract 1 (.t 7)⟩,
  ⟨some 3, none, .alloc [.bool false, .str [], .str []]⟩,
  ⟨none, none, .store 3 (.t 3) (.t 21)⟩,
  ⟨some 4, none, .mv false (.t 22)⟩] = true := ⟨by kernel_rfl, by kernel_rfl⟩
def turn_Sin_r3 : List LOper := [
  ⟨some 23, none, .load false true 3 (.t 3)⟩,
  ⟨none, none, .store 3 (.t 2) (.t 23)⟩]
def turn_Sin_f : LFunc := ⟨24, 1, [.cell 2 true 3], (.seq (.ops turn_Sin_r0) (.seq (.ops turn_Sin_r1) (.seq (.dops [0, 1, 0, 4, 15, 31, 0, 64, 0, 256, 1023, 2047, 4095, 8191, 16383, 16383, 0, 98303, 262143] turn_Sin_r2) (.seq (.ops turn_Sin_r3) .ret))))⟩
def turn_Sin_v : VFunc := ⟨turn_Sin_f, true, false, false⟩
theorem turn_Sin_ok : preFunc Tryd.prog ⟨[], [], [12, 13, 18, 19, 20]⟩ Tryd.f132 [] = some turn_Sin_f := by kernel_rfl

-- gantry/turn.Of
def turn_Of_r0 : List LOper := [
  ⟨some 1, none, .box (.t 0)⟩,
  ⟨some 2, none, .alloc [.bool false, .bool false, .str [], .str []]⟩]
def turn_Of_r1 : List LOper := [
  ⟨some 3, none, .load false true 3 (.t 1)⟩,
  ⟨some 4, none, .load false true 3 (.t 1)⟩,
  ⟨some 5, none, .call false 83 [(.t 3), (.t 4)]⟩,
  ⟨some 6, none, .build [.bool false, .bool false, .str [], .str []] [(1, 3, (.t 5))]⟩,
  ⟨none, none, .store 4 (.t 2) (.t 6)⟩]
def turn_Of_f : LFunc := ⟨7, 1, [.cell 2 true 4], (.seq (.ops turn_Of_r0) (.seq (.ops turn_Of_r1) .ret))⟩
def turn_Of_v : VFunc := ⟨turn_Of_f, true, false, false⟩
theorem turn_Of_ok : preFunc Tryd.prog ⟨[], [], []⟩ Tryd.f133 [] = some turn_Of_f := by kernel_rfl

-- gantry/span.around
def span_around_r0 : List LOper := [
  ⟨some 2, none, .alloc [.bool false, .str [], .str [], .bool false, .str [], .str []]⟩]
def span_around_r1 : List LOper := [
  ⟨some 6, none, .mv false (.t 0)⟩,
  ⟨some 7, none, .indexAddr 3 (.t 6) (.c (.int .i64 0))⟩,
  ⟨some 8, none, .load false true 3 (.t 7)⟩,
  ⟨some 9, none, .call false 86 [(.t 8)]⟩,
  ⟨some 3, none, .alloc [.bool false, .str [], .str [], .bool false, .str [], .str []]⟩,
  ⟨none, none, .store 6 (.t 3) (.t 9)⟩]
def span_around_r2 : List LOper := [
  ⟨some 10, none, .mv false (.t 0)⟩,
  ⟨some 11, none, .slc 3 (.t 10) (some (.c (.int .i64 1))) none none⟩,
  ⟨some 12, none, .lenL (.t 11)⟩,
  ⟨some 13, none, .mv false (.c (.int .i64 0))⟩]
def span_around_r3 : List LOper := [
  ⟨some 14, none, .bin .lss (.t 13) (.t 12)⟩]
def span_around_r4 : List LOper := [
  ⟨some 15, none, .indexAddr 3 (.t 11) (.t 13)⟩,
  ⟨some 16, none, .load false true 3 (.t 15)⟩,
  ⟨some 5, none, .alloc [.bool false, .str [], .str []]⟩,
  ⟨none, none, .store 3 (.t 5) (.t 16)⟩]
def span_around_r5 : List LOper := [
  ⟨some 17, none, .fieldAddr 0 (.t 3)⟩,
  ⟨some 18, none, .load false true 3 (.t 17)⟩,
  ⟨some 19, none, .load false true 3 (.t 5)⟩,
  ⟨some 20, none, .call true 83 [(.t 18), (.t 19)]⟩,
  ⟨some 21, none, .fieldAddr 3 (.t 3)⟩,
  ⟨some 22, none, .load false true 3 (.t 21)⟩,
  ⟨some 23, none, .load false true 3 (.t 5)⟩,
  ⟨some 24, none, .call true 71 [(.t 22), (.t 23)]⟩,
  ⟨some 25, none, .fieldAddr 0 (.t 3)⟩,
  ⟨none, none, .store 3 (.t 25) (.t 20)⟩,
  ⟨some 26, none, .fieldAddr 3 (.t 3)⟩,
  ⟨none, none, .store 3 (.t 26) (.t 24)⟩]
theorem span_around_r5_d : drawC [0, 1, 0, 7, 0, 16, 0, 127, 63, 511, 1023, 2047] [
  ⟨some 17, none, .fieldAddr 0 (.t 3)⟩,
  ⟨some 18, none, .load false true 3 (.t 17)⟩,
  ⟨some 19, none, .load false true 3 (.t 5)⟩,
  ⟨some 20, none, .call true 83 [(.t 18), (.t 19)]⟩,
  ⟨some 21, none, .fieldAddr 3 (.t 3)⟩,
  ⟨some 22, none, .load false true 3 (.t 21)⟩,
  ⟨some 23, none, .load false true 3 (.t 5)⟩,
  ⟨some 24, none, .call true 71 [(.t 22), (.t 23)]⟩,
  ⟨some 25, none, .fieldAddr 0 (.t 3)⟩,
  ⟨none, none, .store 3 (.t 25) (.t 20)⟩,
  ⟨some 26, none, .fieldAddr 3 (.t 3)⟩,
  ⟨none, none, .store 3 (.t 26) (.t 24)⟩] = true := by kernel_rfl
def span_around_r6 : List LOper := [
  ⟨some 27, none, .bin .add (.t 13) (.c (.int .i64 1))⟩,
  ⟨some 13, none, .mv false (.t 27)⟩]
def span_around_b0 : LCode := (.seq (.ops span_around_r3) (.seq (.cond (.t 14) .skip (.exit 0)) (.seq (.block 1 (.seq (.ops span_around_r4) (.dops [0, 1, 0, 7, 0, 16, 0, 127, 63, 511, 1023, 2047] span_around_r5))) (.ops span_around_r6))))
def span_around_r7 : List LOper := [
  ⟨some 28, none, .load false true 6 (.t 3)⟩,
  ⟨none, none, .store 6 (.t 2) (.t 28)⟩]
def span_around_f : LFunc := ⟨29, 1, [.cell 2 true 6], (.seq (.ops span_around_r0) (.seq (.ops span_around_r1) (.seq (.seq (.ops span_around_r2) (.block 0 (.loop [2, 3, 11, 12, 13] span_around_b0))) (.seq (.ops span_around_r7) .ret))))⟩
def span_around_v : VFunc := ⟨span_around_f, true, false, false⟩
theorem span_around_ok : preFunc Tryd.prog ⟨[], [], [20, 24]⟩ Tryd.f134 [[2, 3, 11, 12, 13]] = some span_around_f := by kernel_rfl

-- gantry/turn.Cos
def turn_Cos_r0 : List LOper := [
  ⟨some 1, none, .box (.t 0)⟩,
  ⟨some 2, none, .alloc [.bool false, .str [], .str []]⟩]
def turn_Cos_r1 : List LOper := [
  ⟨some 6, none, .load false true 4 (.t 1)⟩,
  ⟨some 7, none, .call false 139 [(.t 6)]⟩,
  ⟨none, none, .store 4 (.t 1) (.t 7)⟩]
def turn_Cos_r2 : List LOper := [
  ⟨some 8, none, .fieldAddr 0 (.t 1)⟩,
  ⟨some 9, none, .load false false 1 (.t 8)⟩]
def turn_Cos_r3 : List LOper := [
  ⟨some 10, none, .call false 41 [(.c (.int .i64 (-1)))]⟩,
  ⟨none, none, .store 3 (.t 2) (.t 10)⟩]
def turn_Cos_r4 : List LOper := [
  ⟨some 11, none, .fieldAddr 1 (.t 1)⟩,
  ⟨some 12, none, .load false true 3 (.t 11)⟩,
  ⟨some 13, none, .fieldAddr 1 (.t 1)⟩,
  ⟨some 14, none, .load false true 3 (.t 13)⟩,
  ⟨some 15, none, .call false 112 [(.t 12), (.t 14)]⟩,
  ⟨some 3, none, .alloc [.bool false, .str [], .str []]⟩,
  ⟨none, none, .store 3 (.t 3) (.t 15)⟩]
def turn_Cos_r5 : List LOper := [
  ⟨some 17, none, .call true 41 [(.c (.int .i64 1))]⟩,
  ⟨some 18, none, .load false true 3 (.t 3)⟩,
  ⟨some 19, none, .call true 22 [(.t 17), (.t 18)]⟩,
  ⟨some 20, none, .call true 41 [(.c (.int .i64 1))]⟩,
  ⟨some 21, none, .load false true 3 (.t 3)⟩,
  ⟨some 22, none, .call true 23 [(.t 20), (.t 21)]⟩,
  ⟨some 23, none, .call true 76 [(.t 19), (.t 22)]⟩,
  ⟨some 16, none, .mv false (.t 23)⟩,
  ⟨some 24, none, .extract 0 (.t 16)⟩,
  ⟨some 25, none, .extract 1 (.t 16)⟩,
  ⟨some 4, none, .alloc [.bool false, .str [], .str []]⟩,
  ⟨none, none, .store 3 (.t 4) (.t 24)⟩,
  ⟨some 5, none, .mv false (.t 25)⟩]
theorem turn_Cos_r5_d : drawC [0, 0, 3, 7, 0, 31, 63, 127, 255, 255, 0, 1535, 4095] [
  ⟨some 17, none, .call true 41 [(.c (.int .i64 1))]⟩,
  ⟨some 18, none, .load false true 3 (.t 3)⟩,
  ⟨some 19, none, .call true 22 [(.t 17), (.t 18)]⟩,
  ⟨some 20, none, .call true 41 [(.c (.int .i64 1))]⟩,
  ⟨some 21, none, .load false true 3 (.t 3)⟩,
  ⟨some 22, none, .call true 23 [(.t 20), (.t 21)]⟩,
  ⟨some 23, none, .call true 76 [(.t 19), (.t 22)]⟩,
  ⟨some 16, none, .mv false (.t 23)⟩,
  ⟨some 24, none, .extract 0 (.t 16)⟩,
  ⟨some 25, none, .extract 1 (.t 16)⟩,
  ⟨some 4, none, .alloc [.bool false, .str [], .str []]⟩,
  ⟨none, none, .store 3 (.t 4) (.t 24)⟩,
  ⟨some 5, none, .mv false (.t 25)⟩] = false ∧ drawW [0, 0, 3, 7, 0, 31, 63, 127, 255, 255, 0, 1535, 4095] [
  ⟨some 17, none, .call true 41 [(.c (.int .i64 1))]⟩,
  ⟨some 18, none, .load false true 3 (.t 3)⟩,
  ⟨some 19, none, .call true 22 [(.t 17), (.t 18)]⟩,
  ⟨some 20, none, .call true 41 [(.c (.int .i64 1))]⟩,
  ⟨some 21, none, .load false true 3 (.t 3)⟩,
  ⟨some 22, none, .call true 23 [(.t 20), (.t 21)]⟩,
  ⟨some 23, none, .call true 76 [(.t 19), (.t 22)]⟩,
  ⟨some 16, none, .mv false (.t 23)⟩,
  ⟨some 24, none, .extract 0 (.t 16)⟩,
  ⟨some 25, none, .extract 1 (.t 16)⟩,
  ⟨some 4, none, .alloc [.bool false, .str [], .str []]⟩,
  ⟨none, none, .store 3 (.t 4) (.t 24)⟩,
  ⟨some 5, none, .mv false (.t 25)⟩] = true := ⟨by kernel_rfl, by kernel_rfl⟩
def turn_Cos_r6 : List LOper := [
  ⟨some 26, none, .load false true 3 (.t 4)⟩,
  ⟨none, none, .store 3 (.t 2) (.t 26)⟩]
def turn_Cos_f : LFunc := ⟨27, 1, [.cell 2 true 3], (.seq (.ops turn_Cos_r0) (.seq (.seq (.ops turn_Cos_r1) (.seq (.ops turn_Cos_r2) (.cond (.t 9) (.seq (.ops turn_Cos_r3) .ret) .skip))) (.seq (.ops turn_Cos_r4) (.seq (.dops [0, 0, 3, 7, 0, 31, 63, 127, 255, 255, 0, 1535, 4095] turn_Cos_r5) (.seq (.ops turn_Cos_r6) .ret)))))⟩
def turn_Cos_v : VFunc := ⟨turn_Cos_f, true, false, false⟩
theorem turn_Cos_ok : preFunc Tryd.prog ⟨[], [], [17, 19, 20, 22, 23]⟩ Tryd.f135 [] = some turn_Cos_f := by kernel_rfl

-- gantry/carry.place$1
def carry_place_1_r0 : List LOper := [
  ⟨some 2, none, .box (.t 0)⟩,
  ⟨some 3, none, .alloc [.bool false, .str [], .str [], .bool false, .str [], .str []]⟩]
def carry_place_1_r1 : List LOper := [
  ⟨some 4, none, .load false true 3 (.t 2)⟩,
  ⟨some 5, none, .load false true 3 (.t 1)⟩,
  ⟨some 6, none, .call true 22 [(.t 4), (.t 5)]⟩,
  ⟨some 7, none, .load false true 3 (.t 2)⟩,
  ⟨some 8, none, .load false true 3 (.t 1)⟩,
  ⟨some 9, none, .call true 23 [(.t 7), (.t 8)]⟩,
  ⟨some 10, none, .build [.bool false, .str [], .str [], .bool false, .str [], .str []] [(0, 3, (.t 6)), (3, 3, (.t 9))]⟩,
  ⟨none, none, .store 6 (.t 3) (.t 10)⟩]
theorem carry_place_1_r1_d : drawC [0, 0, 3, 0, 0, 31, 63, 127] [
  ⟨some 4, none, .load false true 3 (.t 2)⟩,
  ⟨some 5, none, .load false true 3 (.t 1)⟩,
  ⟨some 6, none, .call true 22 [(.t 4), (.t 5)]⟩,
  ⟨some 7, none, .load false true 3 (.t 2)⟩,
  ⟨some 8, none, .load false true 3 (.t 1)⟩,
  ⟨some 9, none, .call true 23 [(.t 7), (.t 8)]⟩,
  ⟨some 10, none, .build [.bool false, .str [], .str [], .bool false, .str [], .str []] [(0, 3, (.t 6)), (3, 3, (.t 9))]⟩,
  ⟨none, none, .store 6 (.t 3) (.t 10)⟩] = true := by kernel_rfl
def carry_place_1_f : LFunc := ⟨11, 2, [.cell 3 true 6], (.seq (.ops carry_place_1_r0) (.seq (.dops [0, 0, 3, 0, 0, 31, 63, 127] carry_place_1_r1) .ret))⟩
def carry_place_1_v : VFunc := ⟨carry_place_1_f, true, false, false⟩
theorem carry_place_1_ok : preFunc Tryd.prog ⟨[], [], [6, 9]⟩ Tryd.f138 [] = some carry_place_1_f := by kernel_rfl

-- gantry/turn.fit
def turn_fit_r0 : List LOper := [
  ⟨some 1, none, .box (.t 0)⟩,
  ⟨some 2, none, .alloc [.bool false, .bool false, .str [], .str []]⟩]
def turn_fit_r1 : List LOper := [
  ⟨some 3, none, .fieldAddr 0 (.t 1)⟩,
  ⟨some 4, none, .load false false 1 (.t 3)⟩]
def turn_fit_r2 : List LOper := [
  ⟨some 5, none, .call false 141 []⟩,
  ⟨none, none, .store 4 (.t 2) (.t 5)⟩]
def turn_fit_r3 : List LOper := [
  ⟨some 6, none, .fieldAddr 1 (.t 1)⟩,
  ⟨some 7, none, .load false true 3 (.t 6)⟩,
  ⟨some 8, none, .call false 133 [(.t 7)]⟩,
  ⟨none, none, .store 4 (.t 2) (.t 8)⟩]
def turn_fit_f : LFunc := ⟨9, 1, [.cell 2 true 4], (.seq (.ops turn_fit_r0) (.seq (.seq (.ops turn_fit_r1) (.cond (.t 4) (.seq (.ops turn_fit_r2) .ret) .skip)) (.seq (.ops turn_fit_r3) .ret)))⟩
def turn_fit_v : VFunc := ⟨turn_fit_f, true, false, false⟩
theorem turn_fit_ok : preFunc Tryd.prog ⟨[], [], []⟩ Tryd.f139 [] = some turn_fit_f := by kernel_rfl

-- gantry/carry.ends
def carry_ends_r0 : List LOper := [
  ⟨some 1, none, .box (.t 0)⟩,
  ⟨some 2, none, .alloc [.bool false, .str [], .str []]⟩,
  ⟨some 3, none, .alloc [.bool false, .str [], .str []]⟩]
def carry_ends_r1 : List LOper := [
  ⟨some 4, none, .load false true 6 (.t 1)⟩,
  ⟨some 5, none, .call false 126 [(.t 4)]⟩,
  ⟨some 6, none, .un .not (.t 5)⟩]
def carry_ends_r2 : List LOper := [
  ⟨some 7, none, .call false 41 [(.c (.int .i64 0))]⟩,
  ⟨some 8, none, .call false 41 [(.c (.int .i64 0))]⟩,
  ⟨none, none, .store 3 (.t 2) (.t 7)⟩,
  ⟨none, none, .store 3 (.t 3) (.t 8)⟩]
def carry_ends_r3 : List LOper := [
  ⟨some 9, none, .fieldAddr 0 (.t 1)⟩,
  ⟨some 10, none, .load false true 3 (.t 9)⟩,
  ⟨some 11, none, .fieldAddr 3 (.t 1)⟩,
  ⟨some 12, none, .load false true 3 (.t 11)⟩,
  ⟨none, none, .store 3 (.t 2) (.t 10)⟩,
  ⟨none, none, .store 3 (.t 3) (.t 12)⟩]
theorem carry_ends_r3_d : drawC [0, 1, 0, 4, 3, 31] [
  ⟨some 9, none, .fieldAddr 0 (.t 1)⟩,
  ⟨some 10, none, .load false true 3 (.t 9)⟩,
  ⟨some 11, none, .fieldAddr 3 (.t 1)⟩,
  ⟨some 12, none, .load false true 3 (.t 11)⟩,
  ⟨none, none, .store 3 (.t 2) (.t 10)⟩,
  ⟨none, none, .store 3 (.t 3) (.t 12)⟩] = false ∧ drawW [0, 1, 0, 4, 3, 31] [
  ⟨some 9, none, .fieldAddr 0 (.t 1)⟩,
  ⟨some 10, none, .load false true 3 (.t 9)⟩,
  ⟨some 11, none, .fieldAddr 3 (.t 1)⟩,
  ⟨some 12, none, .load false true 3 (.t 11)⟩,
  ⟨none, none, .store 3 (.t 2) (.t 10)⟩,
  ⟨none, none, .store 3 (.t 3) (.t 12)⟩] = true := ⟨by kernel_rfl, by kernel_rfl⟩
def carry_ends_f : LFunc := ⟨13, 1, [.cell 2 true 3, .cell 3 true 3], (.seq (.ops carry_ends_r0) (.seq (.seq (.ops carry_ends_r1) (.cond (.t 6) (.seq (.ops carry_ends_r2) .ret) .skip)) (.seq (.dops [0, 1, 0, 4, 3, 31] carry_ends_r3) .ret)))⟩
def carry_ends_v : VFunc := ⟨carry_ends_f, true, false, false⟩
theorem carry_ends_ok : preFunc Tryd.prog ⟨[], [], []⟩ Tryd.f142 [] = some carry_ends_f := by kernel_rfl

-- gantry/carry.add
def carry_add_r0 : List LOper := [
  ⟨some 2, none, .box (.t 0)⟩,
  ⟨some 3, none, .box (.t 1)⟩,
  ⟨some 4, none, .alloc [.bool false, .str [], .str []]⟩,
  ⟨some 5, none, .alloc [.bool false, .str [], .str []]⟩]
def carry_add_r1 : List LOper := [
  ⟨some 6, none, .load false true 3 (.t 2)⟩,
  ⟨some 7, none, .load false true 3 (.t 3)⟩,
  ⟨some 8, none, .call true 23 [(.t 6), (.t 7)]⟩,
  ⟨some 9, none, .call true 41 [(.c (.int .i64 1))]⟩,
  ⟨some 10, none, .load false true 3 (.t 3)⟩,
  ⟨some 11, none, .load false true 3 (.t 2)⟩,
  ⟨some 12, none, .call true 112 [(.t 10), (.t 11)]⟩,
  ⟨some 13, none, .call true 22 [(.t 9), (.t 12)]⟩,
  ⟨none, none, .store 3 (.t 4) (.t 8)⟩,
  ⟨none, none, .store 3 (.t 5) (.t 13)⟩]
theorem carry_add_r1_d : drawC [0, 0, 3, 7, 0, 0, 63, 127, 255, 511] [
  ⟨some 6, none, .load false true 3 (.t 2)⟩,
  ⟨some 7, none, .load false true 3 (.t 3)⟩,
  ⟨some 8, none, .call true 23 [(.t 6), (.t 7)]⟩,
  ⟨some 9, none, .call true 41 [(.c (.int .i64 1))]⟩,
  ⟨some 10, none, .load false true 3 (.t 3)⟩,
  ⟨some 11, none, .load false true 3 (.t 2)⟩,
  ⟨some 12, none, .call true 112 [(.t 10), (.t 11)]⟩,
  ⟨some 13, none, .call true 22 [(.t 9), (.t 12)]⟩,
  ⟨none, none, .store 3 (.t 4) (.t 8)⟩,
  ⟨none, none, .store 3 (.t 5) (.t 13)⟩] = true := by kernel_rfl
def carry_add_f : LFunc := ⟨14, 2, [.cell 4 true 3, .cell 5 true 3], (.seq (.ops carry_add_r0) (.seq (.dops [0, 0, 3, 7, 0, 0, 63, 127, 255, 511] carry_add_r1) .ret))⟩
def carry_add_v : VFunc := ⟨carry_add_f, true, false, false⟩
theorem carry_add_ok : preFunc Tryd.prog ⟨[], [], [8, 9, 12, 13]⟩ Tryd.f143 [] = some carry_add_f := by kernel_rfl

-- gantry/rat.Sign
def rat_Sign_r0 : List LOper := [
  ⟨some 1, none, .box (.t 0)⟩,
  ⟨some 2, none, .mv false (.c (.int .i64 0))⟩]
def rat_Sign_r1 : List LOper := [
  ⟨some 3, none, .load false true 3 (.t 1)⟩,
  ⟨some 4, none, .call false 67 [(.t 3)]⟩,
  ⟨none, none, .store 3 (.t 1) (.t 4)⟩]
def rat_Sign_r2 : List LOper := [
  ⟨some 6, none, .fieldAddr 1 (.t 1)⟩,
  ⟨some 7, none, .load false false 1 (.t 6)⟩,
  ⟨some 8, none, .bin .eql (.t 7) (.c (.str []))⟩,
  ⟨some 5, none, .mv false (.t 8)⟩]
def rat_Sign_r3 : List LOper := [
  ⟨some 2, none, .mv false (.c (.int .i64 0))⟩]
def rat_Sign_r4 : List LOper := [
  ⟨some 10, none, .fieldAddr 0 (.t 1)⟩,
  ⟨some 11, none, .load false false 1 (.t 10)⟩,
  ⟨some 9, none, .mv false (.t 11)⟩]
def rat_Sign_r5 : List LOper := [
  ⟨some 2, none, .mv false (.c (.int .i64 (-1)))⟩]
def rat_Sign_r6 : List LOper := [
  ⟨some 2, none, .mv false (.c (.int .i64 1))⟩]
def rat_Sign_f : LFunc := ⟨12, 1, [.tmp 2], (.seq (.ops rat_Sign_r0) (.seq (.seq (.ops rat_Sign_r1) (.block 0 (.seq (.ops rat_Sign_r2) (.cond (.t 5) (.seq (.ops rat_Sign_r3) .ret) (.seq (.ops rat_Sign_r4) (.cond (.t 9) (.seq (.ops rat_Sign_r5) .ret) .skip)))))) (.seq (.ops rat_Sign_r6) .ret)))⟩
def rat_Sign_v : VFunc := ⟨rat_Sign_f, true, false, false⟩
theorem rat_Sign_ok : preFunc Tryd.prog ⟨[], [], []⟩ Tryd.f144 [] = some rat_Sign_f := by kernel_rfl

-- gantry/nat.less
def nat_less_r0 : List LOper := [
  ⟨some 4, none, .mv false (.c (.int .u64 0))⟩]
def nat_less_r1 : List LOper := [
  ⟨some 8, none, .mv false (.t 0)⟩,
  ⟨some 9, none, .lenL (.t 8)⟩,
  ⟨some 10, none, .mv false (.c (.int .i64 0))⟩]
def nat_less_r2 : List LOper := [
  ⟨some 11, none, .bin .lss (.t 10) (.t 9)⟩]
def nat_less_r3 : List LOper := [
  ⟨some 12, none, .mv false (.t 10)⟩,
  ⟨some 13, none, .indexAddr 1 (.t 8) (.t 10)⟩,
  ⟨some 14, none, .load false false 1 (.t 13)⟩,
  ⟨some 5, none, .mv false (.t 12)⟩,
  ⟨some 6, none, .mv false (.t 14)⟩]
def nat_less_r4 : List LOper := [
  ⟨some 15, none, .mv false (.t 6)⟩,
  ⟨some 16, none, .conv .u64 (.t 15)⟩,
  ⟨some 17, none, .mv false (.t 4)⟩,
  ⟨some 18, none, .bin .sub (.t 16) (.t 17)⟩,
  ⟨some 7, none, .mv false (.t 18)⟩]
def nat_less_r5 : List LOper := [
  ⟨some 19, none, .mv false (.t 5)⟩,
  ⟨some 20, none, .mv false (.t 1)⟩,
  ⟨some 21, none, .lenL (.t 20)⟩,
  ⟨some 22, none, .bin .lss (.t 19) (.t 21)⟩]
def nat_less_r6 : List LOper := [
  ⟨some 23, none, .mv false (.t 7)⟩,
  ⟨some 24, none, .mv false (.t 1)⟩,
  ⟨some 25, none, .mv false (.t 5)⟩,
  ⟨some 26, none, .indexAddr 1 (.t 24) (.t 25)⟩,
  ⟨some 27, none, .load false false 1 (.t 26)⟩,
  ⟨some 28, none, .conv .u64 (.t 27)⟩,
  ⟨some 29, none, .bin .sub (.t 23) (.t 28)⟩,
  ⟨some 7, none, .mv false (.t 29)⟩]
def nat_less_r7 : List LOper := [
  ⟨some 30, none, .mv false (.t 0)⟩,
  ⟨some 31, none, .mv false (.t 5)⟩,
  ⟨some 32, none, .mv false (.t 7)⟩,
  ⟨some 33, none, .conv .u32 (.t 32)⟩,
  ⟨some 34, none, .mv false (.t 7)⟩,
  ⟨some 35, none, .bin .shr (.t 34) (.c (.int .u64 63))⟩,
  ⟨some 36, none, .indexAddr 1 (.t 30) (.t 31)⟩,
  ⟨none, none, .store 1 (.t 36) (.t 33)⟩,
  ⟨some 4, none, .mv false (.t 35)⟩]
def nat_less_r8 : List LOper := [
  ⟨some 37, none, .bin .add (.t 10) (.c (.int .i64 1))⟩,
  ⟨some 10, none, .mv false (.t 37)⟩]
def nat_less_b0 : LCode := (.seq (.ops nat_less_r2) (.seq (.cond (.t 11) .skip (.exit 0)) (.seq (.block 1 (.seq (.ops nat_less_r3) (.seq (.ops nat_less_r4) (.seq (.seq (.ops nat_less_r5) (.cond (.t 22) (.ops nat_less_r6) .skip)) (.ops nat_less_r7))))) (.ops nat_less_r8))))
def nat_less_f : LFunc := ⟨38, 2, [], (.seq (.ops nat_less_r0) (.seq (.ops nat_less_r1) (.block 0 (.loop [0, 1, 4, 8, 9, 10] nat_less_b0))))⟩
def nat_less_v : VFunc := ⟨nat_less_f, false, false, false⟩
theorem nat_less_ok : preFunc Tryd.prog ⟨[], [], []⟩ Tryd.f149 [[0, 1, 4, 8, 9, 10]] = some nat_less_f := by kernel_rfl

-- gantry/nat.common
def nat_common_r0 : List LOper := [
  ⟨some 4, none, .mv false (.c (.int .u64 0))⟩]
def nat_common_r1 : List LOper := [
  ⟨some 5, none, .mv false (.t 1)⟩,
  ⟨some 6, none, .bin .gtr (.t 5) (.c (.int .u64 0))⟩]
def nat_common_r2 : List LOper := [
  ⟨some 7, none, .mv false (.t 1)⟩,
  ⟨some 8, none, .mv false (.t 0)⟩,
  ⟨some 9, none, .mv false (.t 1)⟩,
  ⟨some 10, none, .bin .rem (.t 8) (.t 9)⟩,
  ⟨some 0, none, .mv false (.t 7)⟩,
  ⟨some 1, none, .mv false (.t 10)⟩]
theorem nat_common_r2_d : drawC [0, 0, 0, 6, 3, 31] [
  ⟨some 7, none, .mv false (.t 1)⟩,
  ⟨some 8, none, .mv false (.t 0)⟩,
  ⟨some 9, none, .mv false (.t 1)⟩,
  ⟨some 10, none, .bin .rem (.t 8) (.t 9)⟩,
  ⟨some 0, none, .mv false (.t 7)⟩,
  ⟨some 1, none, .mv false (.t 10)⟩] = true := by kernel_rfl
def nat_common_b0 : LCode := (.seq (.seq (.ops nat_common_r1) (.cond (.t 6) .skip (.exit 0))) (.block 1 (.dops [0, 0, 0, 6, 3, 31] nat_common_r2)))
def nat_common_r3 : List LOper := [
  ⟨some 11, none, .mv false (.t 0)⟩,
  ⟨some 4, none, .mv false (.t 11)⟩]
def nat_common_f : LFunc := ⟨12, 2, [.tmp 4], (.seq (.ops nat_common_r0) (.seq (.block 0 (.loop [0, 1] nat_common_b0)) (.seq (.ops nat_common_r3) .ret)))⟩
def nat_common_v : VFunc := ⟨nat_common_f, true, false, false⟩
theorem nat_common_ok : preFunc Tryd.prog ⟨[], [], []⟩ Tryd.f150 [[0, 1]] = some nat_common_f := by kernel_rfl

-- internal/bytealg.CompareString
def bytealg_CompareString_f : LFunc := ext2 .cmp
def bytealg_CompareString_v : VFunc := ⟨bytealg_CompareString_f, true, false, false⟩

abbrev n_gantkeep4_CarryLooks : Nat := 10
abbrev n_gantkeep4_Pose : Nat := 13
abbrev n_see_Narrow : Nat := 15
abbrev n_see_Inside : Nat := 18
abbrev n_gantmake_Of : Nat := 20
abbrev n_gantmake_Below : Nat := 21
abbrev n_rat_Sub : Nat := 22
abbrev n_rat_Add : Nat := 23
abbrev n_see_Look : Nat := 24
abbrev n_rat_Cmp : Nat := 26
abbrev n_gantkeep4_Frame : Nat := 37
abbrev n_gantkeep4_carried : Nat := 39
abbrev n_rat_Of : Nat := 41
abbrev n_see_Widen : Nat := 46
abbrev n_carry_Looks : Nat := 47
abbrev n_carry_Need : Nat := 48
abbrev n_carry_Grip : Nat := 51
abbrev n_gantkeep4_Pose_1 : Nat := 57
abbrev n_gantmake_Stream_Next : Nat := 58
abbrev n_see_meet : Nat := 61
abbrev n_see_Of : Nat := 62
abbrev n_see_within : Nat := 64
abbrev n_gantmake_digits : Nat := 65
abbrev n_rat_Neg : Nat := 66
abbrev n_rat_fit : Nat := 67
abbrev n_rat_signed : Nat := 68
abbrev n_rat_made : Nat := 69
abbrev n_nat_Mul : Nat := 70
abbrev n_rat_Max : Nat := 71
abbrev n_nat_Cmp : Nat := 73
abbrev n_see_norm : Nat := 75
abbrev n_rat_Div : Nat := 76
abbrev n_rat_Min : Nat := 83
abbrev n_span_Of : Nat := 86
abbrev n_span_Add : Nat := 87
abbrev n_span_Sub : Nat := 88
abbrev n_span_Mul : Nat := 89
abbrev n_nat_Of : Nat := 93
abbrev n_nat_Add : Nat := 94
abbrev n_see_wide : Nat := 99
abbrev n_carry_place : Nat := 100
abbrev n_span_Meet : Nat := 101
abbrev n_turn_Back : Nat := 103
abbrev n_carry_turned : Nat := 106
abbrev n_carry_rotate : Nat := 107
abbrev n_rat_Mul : Nat := 112
abbrev n_span_fit : Nat := 113
abbrev n_slices_Reverse_bytebyte : Nat := 114
abbrev n_rat_Good : Nat := 115
abbrev n_rat_zero : Nat := 116
abbrev n_nat_Sub : Nat := 117
abbrev n_nat_Gcd : Nat := 118
abbrev n_nat_Div : Nat := 119
abbrev n_nat_trim : Nat := 120
abbrev n_nat_fromShort : Nat := 121
abbrev n_nat_short : Nat := 122
abbrev n_nat_words : Nat := 123
abbrev n_nat_text : Nat := 124
abbrev n_strings_Compare : Nat := 125
abbrev n_span_Good : Nat := 126
abbrev n_turn_Sin : Nat := 132
abbrev n_turn_Of : Nat := 133
abbrev n_span_around : Nat := 134
abbrev n_turn_Cos : Nat := 135
abbrev n_carry_place_1 : Nat := 138
abbrev n_turn_fit : Nat := 139
abbrev n_carry_ends : Nat := 142
abbrev n_carry_add : Nat := 143
abbrev n_rat_Sign : Nat := 144
abbrev n_nat_less : Nat := 149
abbrev n_nat_common : Nat := 150
abbrev n_bytealg_CompareString : Nat := 153
def vp : VProg
  | 10 => some gantkeep4_CarryLooks_v
  | 13 => some gantkeep4_Pose_v
  | 15 => some see_Narrow_v
  | 18 => some see_Inside_v
  | 20 => some gantmake_Of_v
  | 21 => some gantmake_Below_v
  | 22 => some rat_Sub_v
  | 23 => some rat_Add_v
  | 24 => some see_Look_v
  | 26 => some rat_Cmp_v
  | 37 => some gantkeep4_Frame_v
  | 39 => some gantkeep4_carried_v
  | 41 => some rat_Of_v
  | 46 => some see_Widen_v
  | 47 => some carry_Looks_v
  | 48 => some carry_Need_v
  | 51 => some carry_Grip_v
  | 57 => some gantkeep4_Pose_1_v
  | 58 => some gantmake_Stream_Next_v
  | 61 => some see_meet_v
  | 62 => some see_Of_v
  | 64 => some see_within_v
  | 65 => some gantmake_digits_v
  | 66 => some rat_Neg_v
  | 67 => some rat_fit_v
  | 68 => some rat_signed_v
  | 69 => some rat_made_v
  | 70 => some nat_Mul_v
  | 71 => some rat_Max_v
  | 73 => some nat_Cmp_v
  | 75 => some see_norm_v
  | 76 => some rat_Div_v
  | 83 => some rat_Min_v
  | 86 => some span_Of_v
  | 87 => some span_Add_v
  | 88 => some span_Sub_v
  | 89 => some span_Mul_v
  | 93 => some nat_Of_v
  | 94 => some nat_Add_v
  | 99 => some see_wide_v
  | 100 => some carry_place_v
  | 101 => some span_Meet_v
  | 103 => some turn_Back_v
  | 106 => some carry_turned_v
  | 107 => some carry_rotate_v
  | 112 => some rat_Mul_v
  | 113 => some span_fit_v
  | 114 => some slices_Reverse_bytebyte_v
  | 115 => some rat_Good_v
  | 116 => some rat_zero_v
  | 117 => some nat_Sub_v
  | 118 => some nat_Gcd_v
  | 119 => some nat_Div_v
  | 120 => some nat_trim_v
  | 121 => some nat_fromShort_v
  | 122 => some nat_short_v
  | 123 => some nat_words_v
  | 124 => some nat_text_v
  | 125 => some strings_Compare_v
  | 126 => some span_Good_v
  | 132 => some turn_Sin_v
  | 133 => some turn_Of_v
  | 134 => some span_around_v
  | 135 => some turn_Cos_v
  | 138 => some carry_place_1_v
  | 139 => some turn_fit_v
  | 142 => some carry_ends_v
  | 143 => some carry_add_v
  | 144 => some rat_Sign_v
  | 149 => some nat_less_v
  | 150 => some nat_common_v
  | 153 => some bytealg_CompareString_v
  | _ => none
def lp : LProg := fun f => (vp f).map (·.fn)
theorem lp_ok : PSound false Tryd.prog lp := by
  intro f lf h
  unfold lp at h
  unfold vp at h
  split at h
  · cases h; exact .inl ⟨_, _, _, Tryd.func10, gantkeep4_CarryLooks_ok⟩
  · cases h; exact .inl ⟨_, _, _, Tryd.func13, gantkeep4_Pose_ok⟩
  · cases h; exact .inl ⟨_, _, _, Tryd.func15, see_Narrow_ok⟩
  · cases h; exact .inl ⟨_, _, _, Tryd.func18, see_Inside_ok⟩
  · cases h; exact .inl ⟨_, _, _, Tryd.func20, gantmake_Of_ok⟩
  · cases h; exact .inl ⟨_, _, _, Tryd.func21, gantmake_Below_ok⟩
  · cases h; exact .inl ⟨_, _, _, Tryd.func22, rat_Sub_ok⟩
  · cases h; exact .inl ⟨_, _, _, Tryd.func23, rat_Add_ok⟩
  · cases h; exact .inl ⟨_, _, _, Tryd.func24, see_Look_ok⟩
  · cases h; exact .inl ⟨_, _, _, Tryd.func26, rat_Cmp_ok⟩
  · cases h; exact .inl ⟨_, _, _, Tryd.func37, gantkeep4_Frame_ok⟩
  · cases h; exact .inl ⟨_, _, _, Tryd.func39, gantkeep4_carried_ok⟩
  · cases h; exact .inl ⟨_, _, _, Tryd.func41, rat_Of_ok⟩
  · cases h; exact .inl ⟨_, _, _, Tryd.func46, see_Widen_ok⟩
  · cases h; exact .inl ⟨_, _, _, Tryd.func47, carry_Looks_ok⟩
  · cases h; exact .inl ⟨_, _, _, Tryd.func48, carry_Need_ok⟩
  · cases h; exact .inl ⟨_, _, _, Tryd.func51, carry_Grip_ok⟩
  · cases h; exact .inl ⟨_, _, _, Tryd.func57, gantkeep4_Pose_1_ok⟩
  · cases h; exact .inl ⟨_, _, _, Tryd.func58, gantmake_Stream_Next_ok⟩
  · cases h; exact .inl ⟨_, _, _, Tryd.func61, see_meet_ok⟩
  · cases h; exact .inl ⟨_, _, _, Tryd.func62, see_Of_ok⟩
  · cases h; exact .inl ⟨_, _, _, Tryd.func64, see_within_ok⟩
  · cases h; exact .inl ⟨_, _, _, Tryd.func65, gantmake_digits_ok⟩
  · cases h; exact .inl ⟨_, _, _, Tryd.func66, rat_Neg_ok⟩
  · cases h; exact .inl ⟨_, _, _, Tryd.func67, rat_fit_ok⟩
  · cases h; exact .inl ⟨_, _, _, Tryd.func68, rat_signed_ok⟩
  · cases h; exact .inl ⟨_, _, _, Tryd.func69, rat_made_ok⟩
  · cases h; exact .inl ⟨_, _, _, Tryd.func70, nat_Mul_ok⟩
  · cases h; exact .inl ⟨_, _, _, Tryd.func71, rat_Max_ok⟩
  · cases h; exact .inl ⟨_, _, _, Tryd.func73, nat_Cmp_ok⟩
  · cases h; exact .inl ⟨_, _, _, Tryd.func75, see_norm_ok⟩
  · cases h; exact .inl ⟨_, _, _, Tryd.func76, rat_Div_ok⟩
  · cases h; exact .inl ⟨_, _, _, Tryd.func83, rat_Min_ok⟩
  · cases h; exact .inl ⟨_, _, _, Tryd.func86, span_Of_ok⟩
  · cases h; exact .inl ⟨_, _, _, Tryd.func87, span_Add_ok⟩
  · cases h; exact .inl ⟨_, _, _, Tryd.func88, span_Sub_ok⟩
  · cases h; exact .inl ⟨_, _, _, Tryd.func89, span_Mul_ok⟩
  · cases h; exact .inl ⟨_, _, _, Tryd.func93, nat_Of_ok⟩
  · cases h; exact .inl ⟨_, _, _, Tryd.func94, nat_Add_ok⟩
  · cases h; exact .inl ⟨_, _, _, Tryd.func99, see_wide_ok⟩
  · cases h; exact .inl ⟨_, _, _, Tryd.func100, carry_place_ok⟩
  · cases h; exact .inl ⟨_, _, _, Tryd.func101, span_Meet_ok⟩
  · cases h; exact .inl ⟨_, _, _, Tryd.func103, turn_Back_ok⟩
  · cases h; exact .inl ⟨_, _, _, Tryd.func106, carry_turned_ok⟩
  · cases h; exact .inl ⟨_, _, _, Tryd.func107, carry_rotate_ok⟩
  · cases h; exact .inl ⟨_, _, _, Tryd.func112, rat_Mul_ok⟩
  · cases h; exact .inl ⟨_, _, _, Tryd.func113, span_fit_ok⟩
  · cases h; exact .inl ⟨_, _, _, Tryd.func114, slices_Reverse_bytebyte_ok⟩
  · cases h; exact .inl ⟨_, _, _, Tryd.func115, rat_Good_ok⟩
  · cases h; exact .inl ⟨_, _, _, Tryd.func116, rat_zero_ok⟩
  · cases h; exact .inl ⟨_, _, _, Tryd.func117, nat_Sub_ok⟩
  · cases h; exact .inl ⟨_, _, _, Tryd.func118, nat_Gcd_ok⟩
  · cases h; exact .inl ⟨_, _, _, Tryd.func119, nat_Div_ok⟩
  · cases h; exact .inl ⟨_, _, _, Tryd.func120, nat_trim_ok⟩
  · cases h; exact .inl ⟨_, _, _, Tryd.func121, nat_fromShort_ok⟩
  · cases h; exact .inl ⟨_, _, _, Tryd.func122, nat_short_ok⟩
  · cases h; exact .inl ⟨_, _, _, Tryd.func123, nat_words_ok⟩
  · cases h; exact .inl ⟨_, _, _, Tryd.func124, nat_text_ok⟩
  · cases h; exact .inl ⟨_, _, _, Tryd.func125, strings_Compare_ok⟩
  · cases h; exact .inl ⟨_, _, _, Tryd.func126, span_Good_ok⟩
  · cases h; exact .inl ⟨_, _, _, Tryd.func132, turn_Sin_ok⟩
  · cases h; exact .inl ⟨_, _, _, Tryd.func133, turn_Of_ok⟩
  · cases h; exact .inl ⟨_, _, _, Tryd.func134, span_around_ok⟩
  · cases h; exact .inl ⟨_, _, _, Tryd.func135, turn_Cos_ok⟩
  · cases h; exact .inl ⟨_, _, _, Tryd.func138, carry_place_1_ok⟩
  · cases h; exact .inl ⟨_, _, _, Tryd.func139, turn_fit_ok⟩
  · cases h; exact .inl ⟨_, _, _, Tryd.func142, carry_ends_ok⟩
  · cases h; exact .inl ⟨_, _, _, Tryd.func143, carry_add_ok⟩
  · cases h; exact .inl ⟨_, _, _, Tryd.func144, rat_Sign_ok⟩
  · cases h; exact .inl ⟨_, _, _, Tryd.func149, nat_less_ok⟩
  · cases h; exact .inl ⟨_, _, _, Tryd.func150, nat_common_ok⟩
  · cases h; exact .inr CompareString_ext
  · cases h
theorem vp_link (f : FuncId) : Link (lp f) (vp f) := by
  unfold lp
  exact .of_eq rfl
theorem law {f : FuncId} {args : List VV} {h1 : VHeap} (hE : callVL vp 0 f args [] = some (.bool true, h1)) {w : World} {ρ : List Lg.Place} {lh : Heap} (R : Rep (m := false) ⟨w⟩ ρ lh w) {vs : Array Value} {largs : List LV} (hv : VRs ρ vs.toList largs) (hr : RVs (fun _ => none) [] lh args largs) :
    Calls Tryd.prog f vs w fun e w' => e = .returned (.bool true) ∧ Below w.heap.size w w' := law_true lp_ok vp_link hE R hv hr
end Vg.G3
