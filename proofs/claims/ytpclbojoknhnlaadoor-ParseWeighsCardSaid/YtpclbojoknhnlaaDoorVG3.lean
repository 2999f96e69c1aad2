import Derived.Test.YtpclbojoknhnlaaDoorVEE
import Derived.Test.YtpclbojoknhnlaaDoorVVgLib
import Derived.Test.YtpclbojoknhnlaaDoorProg
import Derived.KernelRfl
namespace Vg.G3
open Go Lg Go.RowKit
open Go.Proofs
-- gantry/gantkeep4.ParseWeighs
def gantkeep4_ParseWeighs_r0 : List LOper := [
  ⟨some 8, none, .mv false (.c (.bool false))⟩]
def gantkeep4_ParseWeighs_r1 : List LOper := [
  ⟨some 21, none, .mv false (.t 0)⟩,
  ⟨some 22, none, .call false 28 [(.t 21)]⟩,
  ⟨some 9, none, .alloc [.nilslice, .nilslice, .nilslice, .nilslice, .nilslice, .bool false, .str [], .str []]⟩,
  ⟨none, none, .store 8 (.t 9) (.t 22)⟩]
def gantkeep4_ParseWeighs_r2 : List LOper := [
  ⟨some 23, none, .load false true 8 (.t 9)⟩,
  ⟨some 24, none, .mv false (.t 1)⟩,
  ⟨some 25, none, .call true 42 [(.t 23), (.t 24)]⟩,
  ⟨some 26, none, .load false true 8 (.t 9)⟩,
  ⟨some 27, none, .mv false (.t 2)⟩,
  ⟨some 28, none, .call true 42 [(.t 26), (.t 27)]⟩,
  ⟨some 10, none, .alloc [.str [], .nilslice]⟩,
  ⟨some 11, none, .alloc [.str [], .nilslice]⟩,
  ⟨none, none, .store 2 (.t 10) (.t 25)⟩,
  ⟨none, none, .store 2 (.t 11) (.t 28)⟩]
theorem gantkeep4_ParseWeighs_r2_d : drawC [0, 0, 3, 0, 0, 31, 0, 0, 255, 511] [
  ⟨some 23, none, .load false true 8 (.t 9)⟩,
  ⟨some 24, none, .mv false (.t 1)⟩,
  ⟨some 25, none, .call true 42 [(.t 23), (.t 24)]⟩,
  ⟨some 26, none, .load false true 8 (.t 9)⟩,
  ⟨some 27, none, .mv false (.t 2)⟩,
  ⟨some 28, none, .call true 42 [(.t 26), (.t 27)]⟩,
  ⟨some 10, none, .alloc [.str [], .nilslice]⟩,
  ⟨some 11, none, .alloc [.str [], .nilslice]⟩,
  ⟨none, none, .store 2 (.t 10) (.t 25)⟩,
  ⟨none, none, .store 2 (.t 11) (.t 28)⟩] = false ∧ drawW [0, 0, 3, 0, 0, 31, 0, 0, 255, 511] [
  ⟨some 23, none, .load false true 8 (.t 9)⟩,
  ⟨some 24, none, .mv false (.t 1)⟩,
  ⟨some 25, none, .call true 42 [(.t 23), (.t 24)]⟩,
  ⟨some 26, none, .load false true 8 (.t 9)⟩,
  ⟨some 27, none, .mv false (.t 2)⟩,
  ⟨some 28, none, .call true 42 [(.t 26), (.t 27)]⟩,
  ⟨some 10, none, .alloc [.str [], .nilslice]⟩,
  ⟨some 11, none, .alloc [.str [], .nilslice]⟩,
  ⟨none, none, .store 2 (.t 10) (.t 25)⟩,
  ⟨none, none, .store 2 (.t 11) (.t 28)⟩] = false ∧ isX [0, 0, 3, 0, 0, 31, 0, 0, 255, 511] [
  ⟨some 23, none, .load false true 8 (.t 9)⟩,
  ⟨some 24, none, .mv false (.t 1)⟩,
  ⟨some 25, none, .call true 42 [(.t 23), (.t 24)]⟩,
  ⟨some 26, none, .load false true 8 (.t 9)⟩,
  ⟨some 27, none, .mv false (.t 2)⟩,
  ⟨some 28, none, .call true 42 [(.t 26), (.t 27)]⟩,
  ⟨some 10, none, .alloc [.str [], .nilslice]⟩,
  ⟨some 11, none, .alloc [.str [], .nilslice]⟩,
  ⟨none, none, .store 2 (.t 10) (.t 25)⟩,
  ⟨none, none, .store 2 (.t 11) (.t 28)⟩] = false ∧ allocPair [0, 0, 3, 0, 0, 31, 0, 0, 255, 511] [
  ⟨some 23, none, .load false true 8 (.t 9)⟩,
  ⟨some 24, none, .mv false (.t 1)⟩,
  ⟨some 25, none, .call true 42 [(.t 23), (.t 24)]⟩,
  ⟨some 26, none, .load false true 8 (.t 9)⟩,
  ⟨some 27, none, .mv false (.t 2)⟩,
  ⟨some 28, none, .call true 42 [(.t 26), (.t 27)]⟩,
  ⟨some 10, none, .alloc [.str [], .nilslice]⟩,
  ⟨some 11, none, .alloc [.str [], .nilslice]⟩,
  ⟨none, none, .store 2 (.t 10) (.t 25)⟩,
  ⟨none, none, .store 2 (.t 11) (.t 28)⟩] = some (6, 7) ∧ drawY [0, 0, 3, 0, 0, 31, 0, 0, 255, 511] [
  ⟨some 23, none, .load false true 8 (.t 9)⟩,
  ⟨some 24, none, .mv false (.t 1)⟩,
  ⟨some 25, none, .call true 42 [(.t 23), (.t 24)]⟩,
  ⟨some 26, none, .load false true 8 (.t 9)⟩,
  ⟨some 27, none, .mv false (.t 2)⟩,
  ⟨some 28, none, .call true 42 [(.t 26), (.t 27)]⟩,
  ⟨some 10, none, .alloc [.str [], .nilslice]⟩,
  ⟨some 11, none, .alloc [.str [], .nilslice]⟩,
  ⟨none, none, .store 2 (.t 10) (.t 25)⟩,
  ⟨none, none, .store 2 (.t 11) (.t 28)⟩] 6 7 = true ∧ moveTo 6 7 [
  ⟨some 23, none, .load false true 8 (.t 9)⟩,
  ⟨some 24, none, .mv false (.t 1)⟩,
  ⟨some 25, none, .call true 42 [(.t 23), (.t 24)]⟩,
  ⟨some 26, none, .load false true 8 (.t 9)⟩,
  ⟨some 27, none, .mv false (.t 2)⟩,
  ⟨some 28, none, .call true 42 [(.t 26), (.t 27)]⟩,
  ⟨some 10, none, .alloc [.str [], .nilslice]⟩,
  ⟨some 11, none, .alloc [.str [], .nilslice]⟩,
  ⟨none, none, .store 2 (.t 10) (.t 25)⟩,
  ⟨none, none, .store 2 (.t 11) (.t 28)⟩] = [
  ⟨some 23, none, .load false true 8 (.t 9)⟩,
  ⟨some 24, none, .mv false (.t 1)⟩,
  ⟨some 25, none, .call true 42 [(.t 23), (.t 24)]⟩,
  ⟨some 26, none, .load false true 8 (.t 9)⟩,
  ⟨some 27, none, .mv false (.t 2)⟩,
  ⟨some 28, none, .call true 42 [(.t 26), (.t 27)]⟩,
  ⟨some 11, none, .alloc [.str [], .nilslice]⟩,
  ⟨some 10, none, .alloc [.str [], .nilslice]⟩,
  ⟨none, none, .store 2 (.t 10) (.t 25)⟩,
  ⟨none, none, .store 2 (.t 11) (.t 28)⟩] := ⟨by kernel_rfl, by kernel_rfl, by kernel_rfl, by kernel_rfl, by kernel_rfl, by kernel_rfl⟩
def gantkeep4_ParseWeighs_r3 : List LOper := [
  ⟨some 30, none, .load false true 2 (.t 10)⟩,
  ⟨some 31, none, .call false 53 [(.t 30)]⟩,
  ⟨some 29, none, .mv false (.t 31)⟩,
  ⟨some 32, none, .extract 0 (.t 29)⟩,
  ⟨some 33, none, .extract 1 (.t 29)⟩,
  ⟨some 12, none, .mv false (.t 32)⟩,
  ⟨some 13, none, .mv false (.t 33)⟩]
def gantkeep4_ParseWeighs_r4 : List LOper := [
  ⟨some 35, none, .load false true 2 (.t 11)⟩,
  ⟨some 36, none, .call false 53 [(.t 35)]⟩,
  ⟨some 34, none, .mv false (.t 36)⟩,
  ⟨some 37, none, .extract 0 (.t 34)⟩,
  ⟨some 38, none, .extract 1 (.t 34)⟩,
  ⟨some 14, none, .mv false (.t 37)⟩,
  ⟨some 15, none, .mv false (.t 38)⟩]
def gantkeep4_ParseWeighs_r5 : List LOper := [
  ⟨some 39, none, .fieldAddr 1 (.t 10)⟩,
  ⟨some 40, none, .load false false 1 (.t 39)⟩,
  ⟨some 41, none, .fieldAddr 1 (.t 11)⟩,
  ⟨some 42, none, .load false false 1 (.t 41)⟩,
  ⟨some 43, none, .bslice false 2 1 [.nilslice, .nilslice] [(0, 1, (.t 40)), (1, 1, (.t 42))]⟩,
  ⟨some 44, none, .call false 54 [(.t 43)]⟩,
  ⟨some 45, none, .build [.str [], .nilslice] [(0, 1, (.c (.str [98, 111, 116, 104]))), (1, 1, (.t 44))]⟩,
  ⟨some 16, none, .alloc [.str [], .nilslice]⟩,
  ⟨none, none, .store 2 (.t 16) (.t 45)⟩]
def gantkeep4_ParseWeighs_r6 : List LOper := [
  ⟨some 47, none, .load false true 2 (.t 16)⟩,
  ⟨some 48, none, .call false 53 [(.t 47)]⟩,
  ⟨some 46, none, .mv false (.t 48)⟩,
  ⟨some 49, none, .extract 0 (.t 46)⟩,
  ⟨some 50, none, .extract 1 (.t 46)⟩,
  ⟨some 17, none, .mv false (.t 49)⟩,
  ⟨some 18, none, .mv false (.t 50)⟩]
def gantkeep4_ParseWeighs_r7 : List LOper := [
  ⟨some 51, none, .call false 55 []⟩,
  ⟨some 52, none, .un .not (.t 51)⟩,
  ⟨some 53, none, .mv false (.t 52)⟩,
  ⟨some 54, some (53, false), .mv false (.t 13)⟩,
  ⟨some 55, some (53, false), .bin .neq (.t 54) (.c (.int .i64 0))⟩,
  ⟨some 56, none, .pick (.t 53) (.c (.bool true)) (.t 55)⟩,
  ⟨some 57, none, .mv false (.t 56)⟩,
  ⟨some 58, some (57, false), .mv false (.t 15)⟩,
  ⟨some 59, some (57, false), .bin .neq (.t 58) (.c (.int .i64 0))⟩,
  ⟨some 60, none, .pick (.t 57) (.c (.bool true)) (.t 59)⟩,
  ⟨some 61, none, .mv false (.t 60)⟩,
  ⟨some 62, some (61, false), .mv false (.t 18)⟩,
  ⟨some 63, some (61, false), .bin .eql (.t 62) (.c (.int .i64 0))⟩,
  ⟨some 64, some (61, false), .mv false (.t 12)⟩,
  ⟨some 65, some (61, false), .mv false (.t 14)⟩,
  ⟨some 66, some (61, false), .bin .add (.t 64) (.t 65)⟩,
  ⟨some 67, some (61, false), .bin .leq (.t 66) (.c (.int .i64 100))⟩,
  ⟨some 68, some (61, false), .eqv true .bool (.t 63) (.t 67)⟩,
  ⟨some 69, none, .pick (.t 61) (.c (.bool true)) (.t 68)⟩,
  ⟨some 70, none, .mv false (.t 69)⟩,
  ⟨some 71, some (70, false), .mv false (.t 18)⟩,
  ⟨some 72, some (70, false), .bin .eql (.t 71) (.c (.int .i64 0))⟩,
  ⟨some 73, some (70, false), .mv false (.t 72)⟩,
  ⟨some 74, some (73, true), .mv false (.t 17)⟩,
  ⟨some 75, some (73, true), .mv false (.t 12)⟩,
  ⟨some 76, some (73, true), .mv false (.t 14)⟩,
  ⟨some 77, some (73, true), .bin .add (.t 75) (.t 76)⟩,
  ⟨some 78, some (73, true), .bin .neq (.t 74) (.t 77)⟩,
  ⟨some 79, some (70, false), .pick (.t 73) (.t 78) (.c (.bool false))⟩,
  ⟨some 80, none, .pick (.t 70) (.c (.bool true)) (.t 79)⟩]
def gantkeep4_ParseWeighs_r8 : List LOper := [
  ⟨some 8, none, .mv false (.c (.bool false))⟩]
def gantkeep4_ParseWeighs_r9 : List LOper := [
  ⟨some 81, none, .mv false (.t 3)⟩,
  ⟨some 82, none, .call false 21 [(.t 81), (.c (.int .i64 5))]⟩,
  ⟨some 83, none, .bin .add (.c (.int .i64 1)) (.t 82)⟩,
  ⟨some 3, none, .mv false (.t 83)⟩]
def gantkeep4_ParseWeighs_r10 : List LOper := [
  ⟨some 85, none, .mv false (.t 3)⟩,
  ⟨some 86, none, .fieldAddr 1 (.t 10)⟩,
  ⟨some 87, none, .load false false 1 (.t 86)⟩,
  ⟨some 88, none, .bslice false 1 1 [.nilslice] [(0, 1, (.t 87))]⟩,
  ⟨some 89, none, .build [.int .i64 0, .str [], .str [], .bool false, .str [], .str [], .int .i64 0, .nilslice] [(0, 1, (.c (.int .i64 7))), (6, 1, (.t 85)), (7, 1, (.t 88))]⟩,
  ⟨some 90, none, .bslice false 1 8 [.int .i64 0, .str [], .str [], .bool false, .str [], .str [], .int .i64 0, .nilslice] [(0, 8, (.t 89))]⟩,
  ⟨some 91, none, .build [.str [], .nilslice] [(0, 1, (.c (.str [97, 103, 97, 105, 110]))), (1, 1, (.t 90))]⟩,
  ⟨some 92, none, .call false 53 [(.t 91)]⟩,
  ⟨some 84, none, .mv false (.t 92)⟩,
  ⟨some 93, none, .extract 0 (.t 84)⟩,
  ⟨some 94, none, .extract 1 (.t 84)⟩,
  ⟨some 19, none, .mv false (.t 93)⟩,
  ⟨some 20, none, .mv false (.t 94)⟩]
def gantkeep4_ParseWeighs_r11 : List LOper := [
  ⟨some 95, none, .mv false (.t 20)⟩,
  ⟨some 96, none, .bin .neq (.t 95) (.c (.int .i64 0))⟩,
  ⟨some 97, none, .mv false (.t 96)⟩,
  ⟨some 98, some (97, true), .mv false (.t 20)⟩,
  ⟨some 99, some (97, true), .bin .eql (.t 98) (.c (.int .i64 2))⟩,
  ⟨some 100, none, .pick (.t 97) (.t 99) (.c (.bool false))⟩,
  ⟨some 101, none, .mv false (.t 100)⟩,
  ⟨some 102, some (101, true), .mv false (.t 3)⟩,
  ⟨some 103, some (101, true), .mv false (.t 12)⟩,
  ⟨some 104, some (101, true), .bin .mul (.t 102) (.t 103)⟩,
  ⟨some 105, some (101, true), .bin .add (.c (.int .i64 1)) (.t 104)⟩,
  ⟨some 106, some (101, true), .bin .gtr (.t 105) (.c (.int .i64 100))⟩,
  ⟨some 107, none, .pick (.t 101) (.t 106) (.c (.bool false))⟩,
  ⟨some 108, none, .mv false (.t 107)⟩,
  ⟨some 109, some (108, false), .mv false (.t 20)⟩,
  ⟨some 110, some (108, false), .bin .eql (.t 109) (.c (.int .i64 0))⟩,
  ⟨some 111, some (108, false), .mv false (.t 110)⟩,
  ⟨some 112, some (111, true), .mv false (.t 19)⟩,
  ⟨some 113, some (111, true), .mv false (.t 3)⟩,
  ⟨some 114, some (111, true), .mv false (.t 12)⟩,
  ⟨some 115, some (111, true), .bin .mul (.t 113) (.t 114)⟩,
  ⟨some 116, some (111, true), .bin .add (.c (.int .i64 1)) (.t 115)⟩,
  ⟨some 117, some (111, true), .bin .eql (.t 112) (.t 116)⟩,
  ⟨some 118, some (108, false), .pick (.t 111) (.t 117) (.c (.bool false))⟩,
  ⟨some 119, some (108, false), .mv false (.t 118)⟩,
  ⟨some 120, some (119, true), .load false true 2 (.t 16)⟩,
  ⟨some 121, some (119, true), .call true 56 [(.t 120)]⟩,
  ⟨some 122, some (119, true), .lenL (.t 121)⟩,
  ⟨some 123, some (119, true), .load false true 2 (.t 10)⟩,
  ⟨some 124, some (119, true), .call true 56 [(.t 123)]⟩,
  ⟨some 125, some (119, true), .lenL (.t 124)⟩,
  ⟨some 126, some (119, true), .load false true 2 (.t 11)⟩,
  ⟨some 127, some (119, true), .call true 56 [(.t 126)]⟩,
  ⟨some 128, some (119, true), .lenL (.t 127)⟩,
  ⟨some 129, some (119, true), .bin .add (.t 125) (.t 128)⟩,
  ⟨some 130, some (119, true), .bin .eql (.t 122) (.t 129)⟩,
  ⟨some 131, some (108, false), .pick (.t 119) (.t 130) (.c (.bool false))⟩,
  ⟨some 132, none, .pick (.t 108) (.c (.bool true)) (.t 131)⟩,
  ⟨some 8, none, .mv false (.t 132)⟩]
theorem gantkeep4_ParseWeighs_r11_d : drawC [0, 1, 3, 7, 15, 31, 63, 127, 127, 511, 1023, 2047, 4095, 8191, 16383, 32767, 65535, 131071, 131071, 131071, 917503, 1966079, 4194303, 8388607, 16777215, 33554431, 67108863, 134217727, 33554431, 402653183, 939524095, 33554431, 3087007743, 7381975039, 17045651455, 34359738367, 68719476735, 137438953471, 274877906943] [
  ⟨some 95, none, .mv false (.t 20)⟩,
  ⟨some 96, none, .bin .neq (.t 95) (.c (.int .i64 0))⟩,
  ⟨some 97, none, .mv false (.t 96)⟩,
  ⟨some 98, some (97, true), .mv false (.t 20)⟩,
  ⟨some 99, some (97, true), .bin .eql (.t 98) (.c (.int .i64 2))⟩,
  ⟨some 100, none, .pick (.t 97) (.t 99) (.c (.bool false))⟩,
  ⟨some 101, none, .mv false (.t 100)⟩,
  ⟨some 102, some (101, true), .mv false (.t 3)⟩,
  ⟨some 103, some (101, true), .mv false (.t 12)⟩,
  ⟨some 104, some (101, true), .bin .mul (.t 102) (.t 103)⟩,
  ⟨some 105, some (101, true), .bin .add (.c (.int .i64 1)) (.t 104)⟩,
  ⟨some 106, some (101, true), .bin .gtr (.t 105) (.c (.int .i64 100))⟩,
  ⟨some 107, none, .pick (.t 101) (.t 106) (.c (.bool false))⟩,
  ⟨some 108, none, .mv false (.t 107)⟩,
  ⟨some 109, some (108, false), .mv false (.t 20)⟩,
  ⟨some 110, some (108, false), .bin .eql (.t 109) (.c (.int .i64 0))⟩,
  ⟨some 111, some (108, false), .mv false (.t 110)⟩,
  ⟨some 112, some (111, true), .mv false (.t 19)⟩,
  ⟨some 113, some (111, true), .mv false (.t 3)⟩,
  ⟨some 114, some (111, true), .mv false (.t 12)⟩,
  ⟨some 115, some (111, true), .bin .mul (.t 113) (.t 114)⟩,
  ⟨some 116, some (111, true), .bin .add (.c (.int .i64 1)) (.t 115)⟩,
  ⟨some 117, some (111, true), .bin .eql (.t 112) (.t 116)⟩,
  ⟨some 118, some (108, false), .pick (.t 111) (.t 117) (.c (.bool false))⟩,
  ⟨some 119, some (108, false), .mv false (.t 118)⟩,
  ⟨some 120, some (119, true), .load false true 2 (.t 16)⟩,
  ⟨some 121, some (119, true), .call true 56 [(.t 120)]⟩,
  ⟨some 122, some (119, true), .lenL (.t 121)⟩,
  ⟨some 123, some (119, true), .load false true 2 (.t 10)⟩,
  ⟨some 124, some (119, true), .call true 56 [(.t 123)]⟩,
  ⟨some 125, some (119, true), .lenL (.t 124)⟩,
  ⟨some 126, some (119, true), .load false true 2 (.t 11)⟩,
  ⟨some 127, some (119, true), .call true 56 [(.t 126)]⟩,
  ⟨some 128, some (119, true), .lenL (.t 127)⟩,
  ⟨some 129, some (119, true), .bin .add (.t 125) (.t 128)⟩,
  ⟨some 130, some (119, true), .bin .eql (.t 122) (.t 129)⟩,
  ⟨some 131, some (108, false), .pick (.t 119) (.t 130) (.c (.bool false))⟩,
  ⟨some 132, none, .pick (.t 108) (.c (.bool true)) (.t 131)⟩,
  ⟨some 8, none, .mv false (.t 132)⟩] = true := by kernel_rfl
def gantkeep4_ParseWeighs_f : LFunc := ⟨133, 4, [.tmp 8], (.seq (.ops gantkeep4_ParseWeighs_r0) (.seq (.ops gantkeep4_ParseWeighs_r1) (.seq (.dops [0, 0, 3, 0, 0, 31, 0, 0, 255, 511] gantkeep4_ParseWeighs_r2) (.seq (.ops gantkeep4_ParseWeighs_r3) (.seq (.ops gantkeep4_ParseWeighs_r4) (.seq (.ops gantkeep4_ParseWeighs_r5) (.seq (.ops gantkeep4_ParseWeighs_r6) (.seq (.seq (.ops gantkeep4_ParseWeighs_r7) (.cond (.t 80) (.seq (.ops gantkeep4_ParseWeighs_r8) .ret) .skip)) (.seq (.ops gantkeep4_ParseWeighs_r9) (.seq (.ops gantkeep4_ParseWeighs_r10) (.seq (.dops [0, 1, 3, 7, 15, 31, 63, 127, 127, 511, 1023, 2047, 4095, 8191, 16383, 32767, 65535, 131071, 131071, 131071, 917503, 1966079, 4194303, 8388607, 16777215, 33554431, 67108863, 134217727, 33554431, 402653183, 939524095, 33554431, 3087007743, 7381975039, 17045651455, 34359738367, 68719476735, 137438953471, 274877906943] gantkeep4_ParseWeighs_r11) .ret)))))))))))⟩
def gantkeep4_ParseWeighs_v : VFunc := ⟨gantkeep4_ParseWeighs_f, true, false, false⟩
theorem gantkeep4_ParseWeighs_ok : preFunc Tryd.prog ⟨[], [], [25, 28, 121, 124, 127]⟩ Tryd.f12 [] = some gantkeep4_ParseWeighs_f := by kernel_rfl

-- gantry/gantmake.Of
def gantmake_Of_r0 : List LOper := [
  ⟨some 4, none, .alloc [.bool false, .str [], .str []]⟩]
def gantmake_Of_r1 : List LOper := [
  ⟨some 7, none, .mv false (.t 0)⟩,
  ⟨some 8, none, .mv false (.t 0)⟩,
  ⟨some 9, none, .un .neg (.t 8)⟩,
  ⟨some 10, none, .max2 [(.t 7), (.t 9)]⟩,
  ⟨some 11, none, .mv false (.t 1)⟩,
  ⟨some 5, none, .mv false (.t 10)⟩,
  ⟨some 6, none, .mv false (.t 11)⟩]
def gantmake_Of_r2 : List LOper := [
  ⟨some 12, none, .mv false (.t 6)⟩,
  ⟨some 13, none, .bin .gtr (.t 12) (.c (.int .i64 0))⟩]
def gantmake_Of_r3 : List LOper := [
  ⟨some 14, none, .mv false (.t 6)⟩,
  ⟨some 15, none, .mv false (.t 5)⟩,
  ⟨some 16, none, .mv false (.t 6)⟩,
  ⟨some 17, none, .bin .rem (.t 15) (.t 16)⟩,
  ⟨some 5, none, .mv false (.t 14)⟩,
  ⟨some 6, none, .mv false (.t 17)⟩]
theorem gantmake_Of_r3_d : drawC [0, 0, 0, 6, 3, 31] [
  ⟨some 14, none, .mv false (.t 6)⟩,
  ⟨some 15, none, .mv false (.t 5)⟩,
  ⟨some 16, none, .mv false (.t 6)⟩,
  ⟨some 17, none, .bin .rem (.t 15) (.t 16)⟩,
  ⟨some 5, none, .mv false (.t 14)⟩,
  ⟨some 6, none, .mv false (.t 17)⟩] = true := by kernel_rfl
def gantmake_Of_b0 : LCode := (.seq (.seq (.ops gantmake_Of_r2) (.cond (.t 13) .skip (.exit 0))) (.block 1 (.dops [0, 0, 0, 6, 3, 31] gantmake_Of_r3)))
def gantmake_Of_r4 : List LOper := [
  ⟨some 18, none, .mv false (.t 0)⟩,
  ⟨some 19, none, .mv false (.t 5)⟩,
  ⟨some 20, none, .bin .quo (.t 18) (.t 19)⟩,
  ⟨some 21, none, .mv false (.t 1)⟩,
  ⟨some 22, none, .mv false (.t 5)⟩,
  ⟨some 23, none, .bin .quo (.t 21) (.t 22)⟩,
  ⟨some 0, none, .mv false (.t 20)⟩,
  ⟨some 1, none, .mv false (.t 23)⟩]
theorem gantmake_Of_r4_d : drawC [0, 0, 3, 0, 0, 24, 7, 127] [
  ⟨some 18, none, .mv false (.t 0)⟩,
  ⟨some 19, none, .mv false (.t 5)⟩,
  ⟨some 20, none, .bin .quo (.t 18) (.t 19)⟩,
  ⟨some 21, none, .mv false (.t 1)⟩,
  ⟨some 22, none, .mv false (.t 5)⟩,
  ⟨some 23, none, .bin .quo (.t 21) (.t 22)⟩,
  ⟨some 0, none, .mv false (.t 20)⟩,
  ⟨some 1, none, .mv false (.t 23)⟩] = true := by kernel_rfl
def gantmake_Of_r5 : List LOper := [
  ⟨some 24, none, .mv false (.t 0)⟩,
  ⟨some 25, none, .bin .lss (.t 24) (.c (.int .i64 0))⟩,
  ⟨some 26, none, .mv false (.t 0)⟩,
  ⟨some 27, none, .mv false (.t 0)⟩,
  ⟨some 28, none, .un .neg (.t 27)⟩,
  ⟨some 29, none, .max2 [(.t 26), (.t 28)]⟩,
  ⟨some 30, none, .call false 65 [(.t 29)]⟩,
  ⟨some 31, none, .mv false (.t 1)⟩,
  ⟨some 32, none, .call false 65 [(.t 31)]⟩,
  ⟨some 33, none, .build [.bool false, .str [], .str []] [(0, 1, (.t 25)), (1, 1, (.t 30)), (2, 1, (.t 32))]⟩,
  ⟨none, none, .store 3 (.t 4) (.t 33)⟩]
def gantmake_Of_f : LFunc := ⟨34, 2, [.cell 4 true 3], (.seq (.ops gantmake_Of_r0) (.seq (.ops gantmake_Of_r1) (.seq (.block 0 (.loop [0, 1, 4, 5, 6] gantmake_Of_b0)) (.seq (.dops [0, 0, 3, 0, 0, 24, 7, 127] gantmake_Of_r4) (.seq (.ops gantmake_Of_r5) .ret)))))⟩
def gantmake_Of_v : VFunc := ⟨gantmake_Of_f, true, false, false⟩
theorem gantmake_Of_ok : preFunc Tryd.prog ⟨[], [], []⟩ Tryd.f20 [[0, 1, 4, 5, 6]] = some gantmake_Of_f := by kernel_rfl

-- gantry/gantmake.Below
def gantmake_Below_r0 : List LOper := [
  ⟨some 4, none, .mv false (.c (.int .i64 0))⟩]
def gantmake_Below_r1 : List LOper := [
  ⟨some 5, none, .mv false (.t 0)⟩,
  ⟨some 6, none, .mv false (.t 1)⟩,
  ⟨some 7, none, .bin .rem (.t 5) (.t 6)⟩,
  ⟨some 0, none, .mv false (.t 7)⟩]
def gantmake_Below_r2 : List LOper := [
  ⟨some 8, none, .mv false (.t 0)⟩,
  ⟨some 9, none, .bin .lss (.t 8) (.c (.int .i64 0))⟩]
def gantmake_Below_r3 : List LOper := [
  ⟨some 10, none, .mv false (.t 0)⟩,
  ⟨some 11, none, .mv false (.t 1)⟩,
  ⟨some 12, none, .bin .add (.t 10) (.t 11)⟩,
  ⟨some 0, none, .mv false (.t 12)⟩]
def gantmake_Below_r4 : List LOper := [
  ⟨some 13, none, .mv false (.t 0)⟩,
  ⟨some 4, none, .mv false (.t 13)⟩]
def gantmake_Below_f : LFunc := ⟨14, 2, [.tmp 4], (.seq (.ops gantmake_Below_r0) (.seq (.ops gantmake_Below_r1) (.seq (.seq (.ops gantmake_Below_r2) (.cond (.t 9) (.ops gantmake_Below_r3) .skip)) (.seq (.ops gantmake_Below_r4) .ret))))⟩
def gantmake_Below_v : VFunc := ⟨gantmake_Below_f, true, false, false⟩
theorem gantmake_Below_ok : preFunc Tryd.prog ⟨[], [], []⟩ Tryd.f21 [] = some gantmake_Below_f := by kernel_rfl

-- gantry/gantkeep4.Small
def gantkeep4_Small_r0 : List LOper := [
  ⟨some 2, none, .alloc [.nilslice, .nilslice, .nilslice, .nilslice, .nilslice, .bool false, .str [], .str []]⟩]
def gantkeep4_Small_r1 : List LOper := [
  ⟨some 8, none, .mv false (.t 0)⟩,
  ⟨some 9, none, .build [.nilslice] [(0, 1, (.t 8))]⟩,
  ⟨some 10, none, .box (.t 9)⟩,
  ⟨some 3, none, .mv false (.t 10)⟩]
def gantkeep4_Small_r2 : List LOper := [
  ⟨some 4, none, .alloc [.nilslice, .nilslice, .nilslice, .nilslice, .nilslice, .bool false, .str [], .str []]⟩]
def gantkeep4_Small_r3 : List LOper := [
  ⟨some 11, none, .mv false (.t 3)⟩,
  ⟨some 12, none, .call false 58 [(.t 11), (.c (.int .i64 2))]⟩,
  ⟨some 13, none, .bin .add (.c (.int .i64 1)) (.t 12)⟩,
  ⟨some 14, none, .mv false (.c (.int .i64 0))⟩]
def gantkeep4_Small_r4 : List LOper := [
  ⟨some 15, none, .bin .lss (.t 14) (.t 13)⟩]
def gantkeep4_Small_r5 : List LOper := [
  ⟨some 16, none, .mv false (.t 14)⟩,
  ⟨some 5, none, .mv false (.t 16)⟩]
def gantkeep4_Small_r6 : List LOper := [
  ⟨some 17, none, .fieldAddr 0 (.t 4)⟩,
  ⟨some 18, none, .load true false 1 (.t 17)⟩,
  ⟨some 19, none, .bslice false 2 1 [.str [], .str []] [(0, 1, (.c (.str [97, 110, 110]))), (1, 1, (.c (.str [98, 111, 98])))]⟩,
  ⟨some 20, none, .mv false (.t 5)⟩,
  ⟨some 21, none, .indexAddr 1 (.t 19) (.t 20)⟩,
  ⟨some 22, none, .load false false 1 (.t 21)⟩,
  ⟨some 23, none, .build [.str [], .bool false, .str [], .str [], .bool false, .str [], .str [], .bool false, .bool false, .str [], .str [], .nilslice] [(0, 1, (.t 22))]⟩,
  ⟨some 24, none, .bslice false 1 12 [.str [], .bool false, .str [], .str [], .bool false, .str [], .str [], .bool false, .bool false, .str [], .str [], .nilslice] [(0, 12, (.t 23))]⟩,
  ⟨some 25, none, .append true 12 168 (.t 18) (.t 24)⟩,
  ⟨some 26, none, .fieldAddr 0 (.t 4)⟩,
  ⟨none, none, .store 1 (.t 26) (.t 25)⟩]
theorem gantkeep4_Small_r6_d : drawC [0, 1, 0, 0, 12, 28, 60, 124, 255, 511, 1023] [
  ⟨some 17, none, .fieldAddr 0 (.t 4)⟩,
  ⟨some 18, none, .load true false 1 (.t 17)⟩,
  ⟨some 19, none, .bslice false 2 1 [.str [], .str []] [(0, 1, (.c (.str [97, 110, 110]))), (1, 1, (.c (.str [98, 111, 98])))]⟩,
  ⟨some 20, none, .mv false (.t 5)⟩,
  ⟨some 21, none, .indexAddr 1 (.t 19) (.t 20)⟩,
  ⟨some 22, none, .load false false 1 (.t 21)⟩,
  ⟨some 23, none, .build [.str [], .bool false, .str [], .str [], .bool false, .str [], .str [], .bool false, .bool false, .str [], .str [], .nilslice] [(0, 1, (.t 22))]⟩,
  ⟨some 24, none, .bslice false 1 12 [.str [], .bool false, .str [], .str [], .bool false, .str [], .str [], .bool false, .bool false, .str [], .str [], .nilslice] [(0, 12, (.t 23))]⟩,
  ⟨some 25, none, .append true 12 168 (.t 18) (.t 24)⟩,
  ⟨some 26, none, .fieldAddr 0 (.t 4)⟩,
  ⟨none, none, .store 1 (.t 26) (.t 25)⟩] = false ∧ drawW [0, 1, 0, 0, 12, 28, 60, 124, 255, 511, 1023] [
  ⟨some 17, none, .fieldAddr 0 (.t 4)⟩,
  ⟨some 18, none, .load true false 1 (.t 17)⟩,
  ⟨some 19, none, .bslice false 2 1 [.str [], .str []] [(0, 1, (.c (.str [97, 110, 110]))), (1, 1, (.c (.str [98, 111, 98])))]⟩,
  ⟨some 20, none, .mv false (.t 5)⟩,
  ⟨some 21, none, .indexAddr 1 (.t 19) (.t 20)⟩,
  ⟨some 22, none, .load false false 1 (.t 21)⟩,
  ⟨some 23, none, .build [.str [], .bool false, .str [], .str [], .bool false, .str [], .str [], .bool false, .bool false, .str [], .str [], .nilslice] [(0, 1, (.t 22))]⟩,
  ⟨some 24, none, .bslice false 1 12 [.str [], .bool false, .str [], .str [], .bool false, .str [], .str [], .bool false, .bool false, .str [], .str [], .nilslice] [(0, 12, (.t 23))]⟩,
  ⟨some 25, none, .append true 12 168 (.t 18) (.t 24)⟩,
  ⟨some 26, none, .fieldAddr 0 (.t 4)⟩,
  ⟨none, none, .store 1 (.t 26) (.t 25)⟩] = true := ⟨by kernel_rfl, by kernel_rfl⟩
def gantkeep4_Small_r7 : List LOper := [
  ⟨some 27, none, .bin .add (.t 14) (.c (.int .i64 1))⟩,
  ⟨some 14, none, .mv false (.t 27)⟩]
def gantkeep4_Small_b0 : LCode := (.seq (.ops gantkeep4_Small_r4) (.seq (.cond (.t 15) .skip (.exit 0)) (.seq (.block 1 (.seq (.ops gantkeep4_Small_r5) (.dops [0, 1, 0, 0, 12, 28, 60, 124, 255, 511, 1023] gantkeep4_Small_r6))) (.ops gantkeep4_Small_r7))))
def gantkeep4_Small_r8 : List LOper := [
  ⟨some 28, none, .mv false (.t 3)⟩,
  ⟨some 29, none, .call false 58 [(.t 28), (.c (.int .i64 2))]⟩,
  ⟨some 30, none, .bin .add (.c (.int .i64 1)) (.t 29)⟩,
  ⟨some 31, none, .mv false (.c (.int .i64 0))⟩]
def gantkeep4_Small_r9 : List LOper := [
  ⟨some 32, none, .bin .lss (.t 31) (.t 30)⟩]
def gantkeep4_Small_r10 : List LOper := [
  ⟨some 33, none, .mv false (.t 31)⟩,
  ⟨some 6, none, .mv false (.t 33)⟩]
def gantkeep4_Small_r11 : List LOper := [
  ⟨some 34, none, .fieldAddr 2 (.t 4)⟩,
  ⟨some 35, none, .load true false 1 (.t 34)⟩,
  ⟨some 36, none, .bslice false 2 1 [.str [], .str []] [(0, 1, (.c (.str [98, 111, 108, 116]))), (1, 1, (.c (.str [110, 117, 116])))]⟩,
  ⟨some 37, none, .mv false (.t 6)⟩,
  ⟨some 38, none, .indexAddr 1 (.t 36) (.t 37)⟩,
  ⟨some 39, none, .load false false 1 (.t 38)⟩,
  ⟨some 40, none, .build [.str [], .nilslice, .bool false, .str [], .str [], .bool false, .str [], .str [], .bool false, .bool false, .str [], .str []] [(0, 1, (.t 39))]⟩,
  ⟨some 41, none, .bslice false 1 12 [.str [], .nilslice, .bool false, .str [], .str [], .bool false, .str [], .str [], .bool false, .bool false, .str [], .str []] [(0, 12, (.t 40))]⟩,
  ⟨some 42, none, .append true 12 168 (.t 35) (.t 41)⟩,
  ⟨some 43, none, .fieldAddr 2 (.t 4)⟩,
  ⟨none, none, .store 1 (.t 43) (.t 42)⟩]
theorem gantkeep4_Small_r11_d : drawC [0, 1, 0, 0, 12, 28, 60, 124, 255, 511, 1023] [
  ⟨some 34, none, .fieldAddr 2 (.t 4)⟩,
  ⟨some 35, none, .load true false 1 (.t 34)⟩,
  ⟨some 36, none, .bslice false 2 1 [.str [], .str []] [(0, 1, (.c (.str [98, 111, 108, 116]))), (1, 1, (.c (.str [110, 117, 116])))]⟩,
  ⟨some 37, none, .mv false (.t 6)⟩,
  ⟨some 38, none, .indexAddr 1 (.t 36) (.t 37)⟩,
  ⟨some 39, none, .load false false 1 (.t 38)⟩,
  ⟨some 40, none, .build [.str [], .nilslice, .bool false, .str [], .str [], .bool false, .str [], .str [], .bool false, .bool false, .str [], .str []] [(0, 1, (.t 39))]⟩,
  ⟨some 41, none, .bslice false 1 12 [.str [], .nilslice, .bool false, .str [], .str [], .bool false, .str [], .str [], .bool false, .bool false, .str [], .str []] [(0, 12, (.t 40))]⟩,
  ⟨some 42, none, .append true 12 168 (.t 35) (.t 41)⟩,
  ⟨some 43, none, .fieldAddr 2 (.t 4)⟩,
  ⟨none, none, .store 1 (.t 43) (.t 42)⟩] = false ∧ drawW [0, 1, 0, 0, 12, 28, 60, 124, 255, 511, 1023] [
  ⟨some 34, none, .fieldAddr 2 (.t 4)⟩,
  ⟨some 35, none, .load true false 1 (.t 34)⟩,
  ⟨some 36, none, .bslice false 2 1 [.str [], .str []] [(0, 1, (.c (.str [98, 111, 108, 116]))), (1, 1, (.c (.str [110, 117, 116])))]⟩,
  ⟨some 37, none, .mv false (.t 6)⟩,
  ⟨some 38, none, .indexAddr 1 (.t 36) (.t 37)⟩,
  ⟨some 39, none, .load false false 1 (.t 38)⟩,
  ⟨some 40, none, .build [.str [], .nilslice, .bool false, .str [], .str [], .bool false, .str [], .str [], .bool false, .bool false, .str [], .str []] [(0, 1, (.t 39))]⟩,
  ⟨some 41, none, .bslice false 1 12 [.str [], .nilslice, .bool false, .str [], .str [], .bool false, .str [], .str [], .bool false, .bool false, .str [], .str []] [(0, 12, (.t 40))]⟩,
  ⟨some 42, none, .append true 12 168 (.t 35) (.t 41)⟩,
  ⟨some 43, none, .fieldAddr 2 (.t 4)⟩,
  ⟨none, none, .store 1 (.t 43) (.t 42)⟩] = true := ⟨by kernel_rfl, by kernel_rfl⟩
def gantkeep4_Small_r12 : List LOper := [
  ⟨some 44, none, .bin .add (.t 31) (.c (.int .i64 1))⟩,
  ⟨some 31, none, .mv false (.t 44)⟩]
def gantkeep4_Small_b1 : LCode := (.seq (.ops gantkeep4_Small_r9) (.seq (.cond (.t 32) .skip (.exit 2)) (.seq (.block 3 (.seq (.ops gantkeep4_Small_r10) (.dops [0, 1, 0, 0, 12, 28, 60, 124, 255, 511, 1023] gantkeep4_Small_r11))) (.ops gantkeep4_Small_r12))))
def gantkeep4_Small_r13 : List LOper := [
  ⟨some 45, none, .mv false (.t 3)⟩,
  ⟨some 46, none, .call false 58 [(.t 45), (.c (.int .i64 2))]⟩,
  ⟨some 47, none, .bin .add (.c (.int .i64 1)) (.t 46)⟩,
  ⟨some 48, none, .mv false (.c (.int .i64 0))⟩]
def gantkeep4_Small_r14 : List LOper := [
  ⟨some 49, none, .bin .lss (.t 48) (.t 47)⟩]
def gantkeep4_Small_r15 : List LOper := [
  ⟨some 50, none, .mv false (.t 48)⟩,
  ⟨some 7, none, .mv false (.t 50)⟩]
def gantkeep4_Small_r16 : List LOper := [
  ⟨some 51, none, .fieldAddr 3 (.t 4)⟩,
  ⟨some 52, none, .load true false 1 (.t 51)⟩,
  ⟨some 53, none, .bslice false 2 1 [.str [], .str []] [(0, 1, (.c (.str [104, 101, 114, 101]))), (1, 1, (.c (.str [116, 104, 101, 114, 101])))]⟩,
  ⟨some 54, none, .mv false (.t 7)⟩,
  ⟨some 55, none, .indexAddr 1 (.t 53) (.t 54)⟩,
  ⟨some 56, none, .load false false 1 (.t 55)⟩,
  ⟨some 57, none, .call true 20 [(.c (.int .i64 1)), (.c (.int .i64 4))]⟩,
  ⟨some 58, none, .build [.str [], .bool false, .str [], .str [], .bool false, .str [], .str [], .bool false, .bool false, .str [], .str [], .bool false, .str [], .str []] [(0, 1, (.t 56)), (11, 3, (.t 57))]⟩,
  ⟨some 59, none, .bslice false 1 14 [.str [], .bool false, .str [], .str [], .bool false, .str [], .str [], .bool false, .bool false, .str [], .str [], .bool false, .str [], .str []] [(0, 14, (.t 58))]⟩,
  ⟨some 60, none, .append true 14 184 (.t 52) (.t 59)⟩,
  ⟨some 61, none, .fieldAddr 3 (.t 4)⟩,
  ⟨none, none, .store 1 (.t 61) (.t 60)⟩]
theorem gantkeep4_Small_r16_d : drawC [0, 1, 0, 0, 12, 28, 0, 124, 252, 511, 1023, 2047] [
  ⟨some 51, none, .fieldAddr 3 (.t 4)⟩,
  ⟨some 52, none, .load true false 1 (.t 51)⟩,
  ⟨some 53, none, .bslice false 2 1 [.str [], .str []] [(0, 1, (.c (.str [104, 101, 114, 101]))), (1, 1, (.c (.str [116, 104, 101, 114, 101])))]⟩,
  ⟨some 54, none, .mv false (.t 7)⟩,
  ⟨some 55, none, .indexAddr 1 (.t 53) (.t 54)⟩,
  ⟨some 56, none, .load false false 1 (.t 55)⟩,
  ⟨some 57, none, .call true 20 [(.c (.int .i64 1)), (.c (.int .i64 4))]⟩,
  ⟨some 58, none, .build [.str [], .bool false, .str [], .str [], .bool false, .str [], .str [], .bool false, .bool false, .str [], .str [], .bool false, .str [], .str []] [(0, 1, (.t 56)), (11, 3, (.t 57))]⟩,
  ⟨some 59, none, .bslice false 1 14 [.str [], .bool false, .str [], .str [], .bool false, .str [], .str [], .bool false, .bool false, .str [], .str [], .bool false, .str [], .str []] [(0, 14, (.t 58))]⟩,
  ⟨some 60, none, .append true 14 184 (.t 52) (.t 59)⟩,
  ⟨some 61, none, .fieldAddr 3 (.t 4)⟩,
  ⟨none, none, .store 1 (.t 61) (.t 60)⟩] = false ∧ drawW [0, 1, 0, 0, 12, 28, 0, 124, 252, 511, 1023, 2047] [
  ⟨some 51, none, .fieldAddr 3 (.t 4)⟩,
  ⟨some 52, none, .load true false 1 (.t 51)⟩,
  ⟨some 53, none, .bslice false 2 1 [.str [], .str []] [(0, 1, (.c (.str [104, 101, 114, 101]))), (1, 1, (.c (.str [116, 104, 101, 114, 101])))]⟩,
  ⟨some 54, none, .mv false (.t 7)⟩,
  ⟨some 55, none, .indexAddr 1 (.t 53) (.t 54)⟩,
  ⟨some 56, none, .load false false 1 (.t 55)⟩,
  ⟨some 57, none, .call true 20 [(.c (.int .i64 1)), (.c (.int .i64 4))]⟩,
  ⟨some 58, none, .build [.str [], .bool false, .str [], .str [], .bool false, .str [], .str [], .bool false, .bool false, .str [], .str [], .bool false, .str [], .str []] [(0, 1, (.t 56)), (11, 3, (.t 57))]⟩,
  ⟨some 59, none, .bslice false 1 14 [.str [], .bool false, .str [], .str [], .bool false, .str [], .str [], .bool false, .bool false, .str [], .str [], .bool false, .str [], .str []] [(0, 14, (.t 58))]⟩,
  ⟨some 60, none, .append true 14 184 (.t 52) (.t 59)⟩,
  ⟨some 61, none, .fieldAddr 3 (.t 4)⟩,
  ⟨none, none, .store 1 (.t 61) (.t 60)⟩] = true := ⟨by kernel_rfl, by kernel_rfl⟩
def gantkeep4_Small_r17 : List LOper := [
  ⟨some 62, none, .bin .add (.t 48) (.c (.int .i64 1))⟩,
  ⟨some 48, none, .mv false (.t 62)⟩]
def gantkeep4_Small_b2 : LCode := (.seq (.ops gantkeep4_Small_r14) (.seq (.cond (.t 49) .skip (.exit 4)) (.seq (.block 5 (.seq (.ops gantkeep4_Small_r15) (.dops [0, 1, 0, 0, 12, 28, 0, 124, 252, 511, 1023, 2047] gantkeep4_Small_r16))) (.ops gantkeep4_Small_r17))))
def gantkeep4_Small_r18 : List LOper := [
  ⟨some 63, none, .load false true 8 (.t 4)⟩,
  ⟨none, none, .store 8 (.t 2) (.t 63)⟩]
def gantkeep4_Small_f : LFunc := ⟨64, 1, [.cell 2 true 8], (.seq (.ops gantkeep4_Small_r0) (.seq (.ops gantkeep4_Small_r1) (.seq (.ops gantkeep4_Small_r2) (.seq (.seq (.ops gantkeep4_Small_r3) (.block 0 (.loop [2, 3, 4, 13, 14] gantkeep4_Small_b0))) (.seq (.seq (.ops gantkeep4_Small_r8) (.block 2 (.loop [2, 3, 4, 30, 31] gantkeep4_Small_b1))) (.seq (.seq (.ops gantkeep4_Small_r13) (.block 4 (.loop [2, 4, 47, 48] gantkeep4_Small_b2))) (.seq (.ops gantkeep4_Small_r18) .ret)))))))⟩
def gantkeep4_Small_v : VFunc := ⟨gantkeep4_Small_f, true, false, false⟩
theorem gantkeep4_Small_ok : preFunc Tryd.prog ⟨[18, 35, 52], [], [57]⟩ Tryd.f28 [[2, 3, 4, 13, 14], [2, 3, 4, 30, 31], [2, 4, 47, 48]] = some gantkeep4_Small_f := by kernel_rfl

-- gantry/gantkeep4.Job
def gantkeep4_Job_r0 : List LOper := [
  ⟨some 2, none, .box (.t 0)⟩,
  ⟨some 4, none, .alloc [.str [], .nilslice]⟩]
def gantkeep4_Job_r1 : List LOper := [
  ⟨some 5, none, .load false true 8 (.t 2)⟩,
  ⟨some 6, none, .mv false (.t 1)⟩,
  ⟨some 7, none, .build [.nilslice] [(0, 1, (.t 6))]⟩,
  ⟨some 8, none, .box (.t 7)⟩,
  ⟨some 9, none, .call false 95 [(.t 5), (.t 8), (.c (.int .i64 1))]⟩,
  ⟨some 10, none, .build [.str [], .nilslice] [(0, 1, (.c (.str [116, 97, 115, 107]))), (1, 1, (.t 9))]⟩,
  ⟨none, none, .store 2 (.t 4) (.t 10)⟩]
def gantkeep4_Job_f : LFunc := ⟨11, 2, [.cell 4 true 2], (.seq (.ops gantkeep4_Job_r0) (.seq (.ops gantkeep4_Job_r1) .ret))⟩
def gantkeep4_Job_v : VFunc := ⟨gantkeep4_Job_f, true, false, false⟩
theorem gantkeep4_Job_ok : preFunc Tryd.prog ⟨[], [], []⟩ Tryd.f42 [] = some gantkeep4_Job_f := by kernel_rfl

-- gantry/parse.Weight
def parse_Weight_r0 : List LOper := [
  ⟨some 1, none, .box (.t 0)⟩,
  ⟨some 2, none, .mv false (.c (.int .i64 0))⟩,
  ⟨some 3, none, .mv false (.c (.int .i64 0))⟩]
def parse_Weight_r1 : List LOper := [
  ⟨some 5, none, .load false true 2 (.t 1)⟩,
  ⟨some 6, none, .call false 77 [(.t 5)]⟩,
  ⟨some 4, none, .mv false (.t 6)⟩]
def parse_Weight_r2 : List LOper := [
  ⟨some 7, none, .mv false (.t 4)⟩,
  ⟨some 8, none, .bin .neq (.t 7) (.c (.int .i64 0))⟩]
def parse_Weight_r3 : List LOper := [
  ⟨some 9, none, .mv false (.t 4)⟩,
  ⟨some 2, none, .mv false (.c (.int .i64 0))⟩,
  ⟨some 3, none, .mv false (.t 9)⟩]
def parse_Weight_r4 : List LOper := [
  ⟨some 10, none, .fieldAddr 1 (.t 1)⟩,
  ⟨some 11, none, .load false false 1 (.t 10)⟩,
  ⟨some 12, none, .call false 108 [(.t 11), (.c (.int .i64 1))]⟩,
  ⟨some 13, none, .extract 0 (.t 12)⟩,
  ⟨some 14, none, .extract 1 (.t 12)⟩,
  ⟨some 2, none, .mv false (.t 13)⟩,
  ⟨some 3, none, .mv false (.t 14)⟩]
def parse_Weight_f : LFunc := ⟨15, 1, [.tmp 2, .tmp 3], (.seq (.ops parse_Weight_r0) (.seq (.seq (.ops parse_Weight_r1) (.seq (.ops parse_Weight_r2) (.cond (.t 8) (.seq (.ops parse_Weight_r3) .ret) .skip))) (.seq (.ops parse_Weight_r4) .ret)))⟩
def parse_Weight_v : VFunc := ⟨parse_Weight_f, true, false, false⟩
theorem parse_Weight_ok : preFunc Tryd.prog ⟨[], [], []⟩ Tryd.f53 [] = some parse_Weight_f := by kernel_rfl

-- gantry/gantkeep4.parsed
def gantkeep4_parsed_r0 : List LOper := [
  ⟨some 0, none, .mv false (.c (.bool false))⟩]
def gantkeep4_parsed_r1 : List LOper := [
  ⟨some 4, none, .build [.int .i64 0, .str [], .str [], .bool false, .str [], .str [], .int .i64 0, .nilslice] [(0, 1, (.c (.int .i64 5))), (6, 1, (.c (.int .i64 3)))]⟩,
  ⟨some 5, none, .bslice false 1 8 [.int .i64 0, .str [], .str [], .bool false, .str [], .str [], .int .i64 0, .nilslice] [(0, 8, (.t 4))]⟩,
  ⟨some 6, none, .build [.str [], .nilslice] [(0, 1, (.c (.str [120]))), (1, 1, (.t 5))]⟩,
  ⟨some 7, none, .call false 110 [(.t 6)]⟩,
  ⟨some 3, none, .mv false (.t 7)⟩,
  ⟨some 8, none, .extract 0 (.t 3)⟩,
  ⟨some 9, none, .extract 1 (.t 3)⟩,
  ⟨some 1, none, .mv false (.t 8)⟩,
  ⟨some 2, none, .mv false (.t 9)⟩]
def gantkeep4_parsed_r2 : List LOper := [
  ⟨some 10, none, .mv false (.t 2)⟩,
  ⟨some 11, none, .bin .eql (.t 10) (.c (.int .i64 0))⟩,
  ⟨some 12, none, .mv false (.t 11)⟩,
  ⟨some 13, some (12, true), .mv false (.t 1)⟩,
  ⟨some 14, some (12, true), .bin .eql (.t 13) (.c (.str [106, 111, 98, 32, 120, 32, 123, 32, 119, 97, 105, 116, 32, 51, 32, 59, 32, 125]))⟩,
  ⟨some 15, none, .pick (.t 12) (.t 14) (.c (.bool false))⟩,
  ⟨some 0, none, .mv false (.t 15)⟩]
def gantkeep4_parsed_f : LFunc := ⟨16, 0, [.tmp 0], (.seq (.ops gantkeep4_parsed_r0) (.seq (.ops gantkeep4_parsed_r1) (.seq (.ops gantkeep4_parsed_r2) .ret)))⟩
def gantkeep4_parsed_v : VFunc := ⟨gantkeep4_parsed_f, true, false, false⟩
theorem gantkeep4_parsed_ok : preFunc Tryd.prog ⟨[], [], []⟩ Tryd.f55 [] = some gantkeep4_parsed_f := by kernel_rfl

-- gantry/parse.Leaves
def parse_Leaves_r0 : List LOper := [
  ⟨some 1, none, .box (.t 0)⟩,
  ⟨some 2, none, .mv false (.c (.nilslice))⟩]
def parse_Leaves_r1 : List LOper := [
  ⟨some 3, none, .alloc [.nilslice]⟩]
def parse_Leaves_r2 : List LOper := [
  ⟨some 4, none, .alloc [.nilfunc]⟩]
def parse_Leaves_r3 : List LOper := [
  ⟨some 5, none, .mkfunc 111 [(.t 3), (.t 4)]⟩,
  ⟨none, none, .store 1 (.t 4) (.t 5)⟩]
def parse_Leaves_r4 : List LOper := [
  ⟨some 6, none, .load false true 2 (.t 1)⟩,
  ⟨some 7, none, .call false 77 [(.t 6)]⟩,
  ⟨some 8, none, .bin .eql (.t 7) (.c (.int .i64 0))⟩]
def parse_Leaves_r5 : List LOper := [
  ⟨some 9, none, .load false false 1 (.t 4)⟩,
  ⟨some 10, none, .fieldAddr 1 (.t 1)⟩,
  ⟨some 11, none, .load false false 1 (.t 10)⟩,
  ⟨some 12, none, .callv (.t 9) [(.t 11), (.c (.int .i64 1))]⟩]
def parse_Leaves_r6 : List LOper := [
  ⟨some 13, none, .load false false 1 (.t 3)⟩,
  ⟨some 2, none, .mv false (.t 13)⟩]
def parse_Leaves_f : LFunc := ⟨14, 1, [.tmp 2], (.seq (.ops parse_Leaves_r0) (.seq (.ops parse_Leaves_r1) (.seq (.ops parse_Leaves_r2) (.seq (.ops parse_Leaves_r3) (.seq (.seq (.ops parse_Leaves_r4) (.cond (.t 8) (.ops parse_Leaves_r5) .skip)) (.seq (.ops parse_Leaves_r6) .ret))))))⟩
def parse_Leaves_v : VFunc := ⟨parse_Leaves_f, true, false, false⟩
theorem parse_Leaves_ok : preFunc Tryd.prog ⟨[], [], []⟩ Tryd.f56 [] = some parse_Leaves_f := by kernel_rfl

-- (*gantry/gantmake.Stream).Next
def gantmake_Stream_Next_r0 : List LOper := [
  ⟨some 4, none, .mv false (.c (.int .i64 0))⟩]
def gantmake_Stream_Next_r1 : List LOper := [
  ⟨some 6, none, .mv false (.t 0)⟩,
  ⟨some 7, none, .nilchk (.t 6)⟩,
  ⟨some 8, none, .fieldAddr 0 (.t 7)⟩,
  ⟨some 9, none, .load false false 1 (.t 8)⟩,
  ⟨some 10, none, .lenL (.t 9)⟩,
  ⟨some 11, none, .bin .eql (.t 10) (.c (.int .i64 0))⟩,
  ⟨some 12, none, .mv false (.t 11)⟩,
  ⟨some 13, some (12, false), .mv false (.t 1)⟩,
  ⟨some 14, some (12, false), .bin .lss (.t 13) (.c (.int .i64 1))⟩,
  ⟨some 15, none, .pick (.t 12) (.c (.bool true)) (.t 14)⟩]
def gantmake_Stream_Next_r2 : List LOper := [
  ⟨some 4, none, .mv false (.c (.int .i64 0))⟩]
def gantmake_Stream_Next_r3 : List LOper := [
  ⟨some 16, none, .mv false (.t 0)⟩,
  ⟨some 17, none, .nilchk (.t 16)⟩,
  ⟨some 18, none, .fieldAddr 0 (.t 17)⟩,
  ⟨some 19, none, .load false false 1 (.t 18)⟩,
  ⟨some 20, none, .indexAddr 1 (.t 19) (.c (.int .i64 0))⟩,
  ⟨some 21, none, .load false false 1 (.t 20)⟩,
  ⟨some 5, none, .mv false (.t 21)⟩]
def gantmake_Stream_Next_r4 : List LOper := [
  ⟨some 22, none, .mv false (.t 0)⟩,
  ⟨some 23, none, .mv false (.t 0)⟩,
  ⟨some 24, none, .nilchk (.t 23)⟩,
  ⟨some 25, none, .fieldAddr 0 (.t 24)⟩,
  ⟨some 26, none, .load false false 1 (.t 25)⟩,
  ⟨some 27, none, .slc 1 (.t 26) (some (.c (.int .i64 1))) none none⟩,
  ⟨some 28, none, .nilchk (.t 22)⟩,
  ⟨some 29, none, .fieldAddr 0 (.t 28)⟩,
  ⟨none, none, .store 1 (.t 29) (.t 27)⟩]
def gantmake_Stream_Next_r5 : List LOper := [
  ⟨some 30, none, .mv false (.t 5)⟩,
  ⟨some 31, none, .mv false (.t 1)⟩,
  ⟨some 32, none, .call false 21 [(.t 30), (.t 31)]⟩,
  ⟨some 4, none, .mv false (.t 32)⟩]
def gantmake_Stream_Next_f : LFunc := ⟨33, 2, [.tmp 4], (.seq (.ops gantmake_Stream_Next_r0) (.seq (.seq (.ops gantmake_Stream_Next_r1) (.cond (.t 15) (.seq (.ops gantmake_Stream_Next_r2) .ret) .skip)) (.seq (.ops gantmake_Stream_Next_r3) (.seq (.ops gantmake_Stream_Next_r4) (.seq (.ops gantmake_Stream_Next_r5) .ret)))))⟩
def gantmake_Stream_Next_v : VFunc := ⟨gantmake_Stream_Next_f, false, false, false⟩
theorem gantmake_Stream_Next_ok : preFunc Tryd.prog ⟨[], [], []⟩ Tryd.f58 [] = some gantmake_Stream_Next_f := by kernel_rfl

-- gantry/gantmake.digits
def gantmake_digits_r0 : List LOper := [
  ⟨some 2, none, .mv false (.c (.str []))⟩]
def gantmake_digits_r1 : List LOper := [
  ⟨some 3, none, .mv true (.c (.nilslice))⟩]
def gantmake_digits_r2 : List LOper := [
  ⟨some 4, none, .mv false (.t 0)⟩,
  ⟨some 5, none, .bin .gtr (.t 4) (.c (.int .i64 0))⟩]
def gantmake_digits_r3 : List LOper := [
  ⟨some 8, none, .mv true (.t 3)⟩,
  ⟨some 9, none, .mv false (.t 0)⟩,
  ⟨some 10, none, .bin .rem (.t 9) (.c (.int .i64 256))⟩,
  ⟨some 11, none, .conv .u8 (.t 10)⟩,
  ⟨some 12, none, .bslice false 1 1 [.int .u8 0] [(0, 1, (.t 11))]⟩,
  ⟨some 13, none, .append true 1 1 (.t 8) (.t 12)⟩,
  ⟨some 3, none, .mv true (.t 13)⟩]
def gantmake_digits_r4 : List LOper := [
  ⟨some 6, none, .mv false (.t 0)⟩,
  ⟨some 7, none, .bin .quo (.t 6) (.c (.int .i64 256))⟩,
  ⟨some 0, none, .mv false (.t 7)⟩]
def gantmake_digits_b0 : LCode := (.seq (.seq (.ops gantmake_digits_r2) (.cond (.t 5) .skip (.exit 0))) (.seq (.block 1 (.ops gantmake_digits_r3)) (.ops gantmake_digits_r4)))
def gantmake_digits_r5 : List LOper := [
  ⟨some 14, none, .mv false (.t 3)⟩,
  ⟨some 15, none, .call false 114 [(.t 14)]⟩]
def gantmake_digits_r6 : List LOper := [
  ⟨some 16, none, .mv false (.t 3)⟩,
  ⟨some 17, none, .b2s (.t 16)⟩,
  ⟨some 2, none, .mv false (.t 17)⟩]
def gantmake_digits_f : LFunc := ⟨18, 1, [.tmp 2], (.seq (.ops gantmake_digits_r0) (.seq (.ops gantmake_digits_r1) (.seq (.block 0 (.loop [0, 3] gantmake_digits_b0)) (.seq (.ops gantmake_digits_r5) (.seq (.ops gantmake_digits_r6) .ret)))))⟩
def gantmake_digits_v : VFunc := ⟨gantmake_digits_f, true, false, false⟩
theorem gantmake_digits_ok : preFunc Tryd.prog ⟨[3, 8, 13], [], []⟩ Tryd.f65 [[0, 3]] = some gantmake_digits_f := by kernel_rfl

-- gantry/rat.fit
def rat_fit_r0 : List LOper := [
  ⟨some 1, none, .box (.t 0)⟩,
  ⟨some 2, none, .alloc [.bool false, .str [], .str []]⟩]
def rat_fit_r1 : List LOper := [
  ⟨some 3, none, .load false true 3 (.t 1)⟩,
  ⟨some 4, none, .call false 115 [(.t 3)]⟩,
  ⟨some 5, none, .un .not (.t 4)⟩]
def rat_fit_r2 : List LOper := [
  ⟨some 6, none, .call false 116 []⟩,
  ⟨none, none, .store 3 (.t 2) (.t 6)⟩]
def rat_fit_r3 : List LOper := [
  ⟨some 7, none, .load false true 3 (.t 1)⟩,
  ⟨none, none, .store 3 (.t 2) (.t 7)⟩]
def rat_fit_f : LFunc := ⟨8, 1, [.cell 2 true 3], (.seq (.ops rat_fit_r0) (.seq (.seq (.ops rat_fit_r1) (.cond (.t 5) (.seq (.ops rat_fit_r2) .ret) .skip)) (.seq (.ops rat_fit_r3) .ret)))⟩
def rat_fit_v : VFunc := ⟨rat_fit_f, true, false, false⟩
theorem rat_fit_ok : preFunc Tryd.prog ⟨[], [], []⟩ Tryd.f67 [] = some rat_fit_f := by kernel_rfl

-- gantry/nat.Cmp
def nat_Cmp_r0 : List LOper := [
  ⟨some 4, none, .mv false (.c (.int .i64 0))⟩]
def nat_Cmp_r1 : List LOper := [
  ⟨some 5, none, .mv false (.t 0)⟩,
  ⟨some 6, none, .call false 120 [(.t 5)]⟩,
  ⟨some 7, none, .mv false (.t 1)⟩,
  ⟨some 8, none, .call false 120 [(.t 7)]⟩,
  ⟨some 0, none, .mv false (.t 6)⟩,
  ⟨some 1, none, .mv false (.t 8)⟩]
def nat_Cmp_r2 : List LOper := [
  ⟨some 10, none, .mv false (.t 0)⟩,
  ⟨some 11, none, .lenS (.t 10)⟩,
  ⟨some 12, none, .mv false (.t 1)⟩,
  ⟨some 13, none, .lenS (.t 12)⟩,
  ⟨some 14, none, .bin .lss (.t 11) (.t 13)⟩,
  ⟨some 9, none, .mv false (.t 14)⟩]
def nat_Cmp_r3 : List LOper := [
  ⟨some 4, none, .mv false (.c (.int .i64 (-1)))⟩]
def nat_Cmp_r4 : List LOper := [
  ⟨some 16, none, .mv false (.t 0)⟩,
  ⟨some 17, none, .lenS (.t 16)⟩,
  ⟨some 18, none, .mv false (.t 1)⟩,
  ⟨some 19, none, .lenS (.t 18)⟩,
  ⟨some 20, none, .bin .gtr (.t 17) (.t 19)⟩,
  ⟨some 15, none, .mv false (.t 20)⟩]
def nat_Cmp_r5 : List LOper := [
  ⟨some 4, none, .mv false (.c (.int .i64 1))⟩]
def nat_Cmp_r6 : List LOper := [
  ⟨some 21, none, .mv false (.t 0)⟩,
  ⟨some 22, none, .mv false (.t 1)⟩,
  ⟨some 23, none, .call false 125 [(.t 21), (.t 22)]⟩,
  ⟨some 4, none, .mv false (.t 23)⟩]
def nat_Cmp_f : LFunc := ⟨24, 2, [.tmp 4], (.seq (.ops nat_Cmp_r0) (.seq (.ops nat_Cmp_r1) (.seq (.block 0 (.seq (.ops nat_Cmp_r2) (.cond (.t 9) (.seq (.ops nat_Cmp_r3) .ret) (.seq (.ops nat_Cmp_r4) (.cond (.t 15) (.seq (.ops nat_Cmp_r5) .ret) .skip))))) (.seq (.ops nat_Cmp_r6) .ret))))⟩
def nat_Cmp_v : VFunc := ⟨nat_Cmp_f, true, false, false⟩
theorem nat_Cmp_ok : preFunc Tryd.prog ⟨[], [], []⟩ Tryd.f73 [] = some nat_Cmp_f := by kernel_rfl

-- gantry/parse.Check
def parse_Check_r0 : List LOper := [
  ⟨some 1, none, .box (.t 0)⟩,
  ⟨some 2, none, .mv false (.c (.int .i64 0))⟩]
def parse_Check_r1 : List LOper := [
  ⟨some 5, none, .fieldAddr 0 (.t 1)⟩,
  ⟨some 6, none, .load false false 1 (.t 5)⟩,
  ⟨some 7, none, .call false 127 [(.t 6)]⟩,
  ⟨some 8, none, .un .not (.t 7)⟩]
def parse_Check_r2 : List LOper := [
  ⟨some 2, none, .mv false (.c (.int .i64 3))⟩]
def parse_Check_r3 : List LOper := [
  ⟨some 10, none, .fieldAddr 1 (.t 1)⟩,
  ⟨some 11, none, .load false false 1 (.t 10)⟩,
  ⟨some 12, none, .call false 108 [(.t 11), (.c (.int .i64 1))]⟩,
  ⟨some 9, none, .mv false (.t 12)⟩,
  ⟨some 13, none, .extract 0 (.t 9)⟩,
  ⟨some 14, none, .extract 1 (.t 9)⟩,
  ⟨some 3, none, .mv false (.t 13)⟩,
  ⟨some 4, none, .mv false (.t 14)⟩]
def parse_Check_r4 : List LOper := [
  ⟨some 15, none, .mv false (.t 4)⟩,
  ⟨some 2, none, .mv false (.t 15)⟩]
def parse_Check_f : LFunc := ⟨16, 1, [.tmp 2], (.seq (.ops parse_Check_r0) (.seq (.seq (.ops parse_Check_r1) (.cond (.t 8) (.seq (.ops parse_Check_r2) .ret) .skip)) (.seq (.ops parse_Check_r3) (.seq (.ops parse_Check_r4) .ret))))⟩
def parse_Check_v : VFunc := ⟨parse_Check_f, true, false, false⟩
theorem parse_Check_ok : preFunc Tryd.prog ⟨[], [], []⟩ Tryd.f77 [] = some parse_Check_f := by kernel_rfl

-- gantry/nat.Of
def nat_Of_r0 : List LOper := [
  ⟨some 2, none, .mv false (.c (.str []))⟩]
def nat_Of_r1 : List LOper := [
  ⟨some 3, none, .mv false (.t 0)⟩,
  ⟨some 4, none, .bin .lss (.t 3) (.c (.int .i64 1))⟩]
def nat_Of_r2 : List LOper := [
  ⟨some 2, none, .mv false (.c (.str []))⟩]
def nat_Of_r3 : List LOper := [
  ⟨some 5, none, .mv false (.t 0)⟩,
  ⟨some 6, none, .conv .u64 (.t 5)⟩,
  ⟨some 7, none, .call false 121 [(.t 6)]⟩,
  ⟨some 2, none, .mv false (.t 7)⟩]
def nat_Of_f : LFunc := ⟨8, 1, [.tmp 2], (.seq (.ops nat_Of_r0) (.seq (.seq (.ops nat_Of_r1) (.cond (.t 4) (.seq (.ops nat_Of_r2) .ret) .skip)) (.seq (.ops nat_Of_r3) .ret)))⟩
def nat_Of_v : VFunc := ⟨nat_Of_f, true, false, false⟩
theorem nat_Of_ok : preFunc Tryd.prog ⟨[], [], []⟩ Tryd.f93 [] = some nat_Of_f := by kernel_rfl

-- gantry/gantkeep4.stmts
def gantkeep4_stmts_r0 : List LOper := [
  ⟨some 3, none, .box (.t 0)⟩,
  ⟨some 6, none, .mv false (.c (.nilslice))⟩]
def gantkeep4_stmts_r1 : List LOper := [
  ⟨some 7, none, .mv true (.c (.nilslice))⟩]
def gantkeep4_stmts_r2 : List LOper := [
  ⟨some 8, none, .mv false (.t 1)⟩,
  ⟨some 9, none, .call false 58 [(.t 8), (.c (.int .i64 2))]⟩,
  ⟨some 10, none, .bin .add (.c (.int .i64 1)) (.t 9)⟩,
  ⟨some 11, none, .mv false (.c (.int .i64 0))⟩]
def gantkeep4_stmts_r3 : List LOper := [
  ⟨some 12, none, .bin .lss (.t 11) (.t 10)⟩]
def gantkeep4_stmts_r4 : List LOper := [
  ⟨some 13, none, .mv true (.t 7)⟩,
  ⟨some 14, none, .load false true 8 (.t 3)⟩,
  ⟨some 15, none, .mv false (.t 1)⟩,
  ⟨some 16, none, .mv false (.t 2)⟩,
  ⟨some 17, none, .call false 136 [(.t 14), (.t 15), (.t 16)]⟩,
  ⟨some 18, none, .bslice false 1 8 [.int .i64 0, .str [], .str [], .bool false, .str [], .str [], .int .i64 0, .nilslice] [(0, 8, (.t 17))]⟩,
  ⟨some 19, none, .append true 8 112 (.t 13) (.t 18)⟩,
  ⟨some 7, none, .mv true (.t 19)⟩]
def gantkeep4_stmts_r5 : List LOper := [
  ⟨some 20, none, .bin .add (.t 11) (.c (.int .i64 1))⟩,
  ⟨some 11, none, .mv false (.t 20)⟩]
def gantkeep4_stmts_b0 : LCode := (.seq (.ops gantkeep4_stmts_r3) (.seq (.cond (.t 12) .skip (.exit 0)) (.seq (.block 1 (.ops gantkeep4_stmts_r4)) (.ops gantkeep4_stmts_r5))))
def gantkeep4_stmts_r6 : List LOper := [
  ⟨some 21, none, .mv false (.t 7)⟩,
  ⟨some 6, none, .mv false (.t 21)⟩]
def gantkeep4_stmts_f : LFunc := ⟨22, 3, [.tmp 6], (.seq (.ops gantkeep4_stmts_r0) (.seq (.ops gantkeep4_stmts_r1) (.seq (.seq (.ops gantkeep4_stmts_r2) (.block 0 (.loop [1, 2, 3, 7, 10, 11] gantkeep4_stmts_b0))) (.seq (.ops gantkeep4_stmts_r6) .ret))))⟩
def gantkeep4_stmts_v : VFunc := ⟨gantkeep4_stmts_f, false, false, false⟩
theorem gantkeep4_stmts_ok : preFunc Tryd.prog ⟨[7, 13, 19], [], []⟩ Tryd.f95 [[1, 2, 3, 7, 10, 11]] = some gantkeep4_stmts_f := by kernel_rfl

-- gantry/parse.stmts
def parse_stmts_r0 : List LOper := [
  ⟨some 4, none, .mv false (.c (.int .i64 0))⟩,
  ⟨some 5, none, .mv false (.c (.int .i64 0))⟩]
def parse_stmts_r1 : List LOper := [
  ⟨some 11, none, .mv false (.t 1)⟩,
  ⟨some 12, none, .bin .gtr (.t 11) (.c (.int .i64 5))⟩]
def parse_stmts_r2 : List LOper := [
  ⟨some 4, none, .mv false (.c (.int .i64 0))⟩,
  ⟨some 5, none, .mv false (.c (.int .i64 2))⟩]
def parse_stmts_r3 : List LOper := [
  ⟨some 6, none, .mv false (.c (.int .i64 0))⟩]
def parse_stmts_r4 : List LOper := [
  ⟨some 13, none, .mv false (.t 0)⟩,
  ⟨some 14, none, .lenL (.t 13)⟩,
  ⟨some 15, none, .mv false (.c (.int .i64 0))⟩]
def parse_stmts_r5 : List LOper := [
  ⟨some 16, none, .bin .lss (.t 15) (.t 14)⟩]
def parse_stmts_r6 : List LOper := [
  ⟨some 17, none, .indexAddr 8 (.t 13) (.t 15)⟩,
  ⟨some 18, none, .load false true 8 (.t 17)⟩,
  ⟨some 8, none, .alloc [.int .i64 0, .str [], .str [], .bool false, .str [], .str [], .int .i64 0, .nilslice]⟩,
  ⟨none, none, .store 8 (.t 8) (.t 18)⟩]
def parse_stmts_r7 : List LOper := [
  ⟨some 20, none, .load false true 8 (.t 8)⟩,
  ⟨some 21, none, .mv false (.t 1)⟩,
  ⟨some 22, none, .call false 145 [(.t 20), (.t 21)]⟩,
  ⟨some 19, none, .mv false (.t 22)⟩,
  ⟨some 23, none, .extract 0 (.t 19)⟩,
  ⟨some 24, none, .extract 1 (.t 19)⟩,
  ⟨some 9, none, .mv false (.t 23)⟩,
  ⟨some 10, none, .mv false (.t 24)⟩]
def parse_stmts_r8 : List LOper := [
  ⟨some 25, none, .mv false (.t 10)⟩,
  ⟨some 26, none, .bin .neq (.t 25) (.c (.int .i64 0))⟩]
def parse_stmts_r9 : List LOper := [
  ⟨some 27, none, .mv false (.t 10)⟩,
  ⟨some 4, none, .mv false (.c (.int .i64 0))⟩,
  ⟨some 5, none, .mv false (.t 27)⟩]
def parse_stmts_r10 : List LOper := [
  ⟨some 28, none, .mv false (.t 6)⟩,
  ⟨some 29, none, .mv false (.t 9)⟩,
  ⟨some 30, none, .bin .add (.t 28) (.t 29)⟩,
  ⟨some 6, none, .mv false (.t 30)⟩]
def parse_stmts_r11 : List LOper := [
  ⟨some 31, none, .mv false (.t 6)⟩,
  ⟨some 32, none, .bin .gtr (.t 31) (.c (.int .i64 100))⟩]
def parse_stmts_r12 : List LOper := [
  ⟨some 4, none, .mv false (.c (.int .i64 0))⟩,
  ⟨some 5, none, .mv false (.c (.int .i64 2))⟩]
def parse_stmts_r13 : List LOper := [
  ⟨some 33, none, .bin .add (.t 15) (.c (.int .i64 1))⟩,
  ⟨some 15, none, .mv false (.t 33)⟩]
def parse_stmts_b0 : LCode := (.seq (.ops parse_stmts_r5) (.seq (.cond (.t 16) .skip (.exit 0)) (.seq (.block 1 (.seq (.ops parse_stmts_r6) (.seq (.ops parse_stmts_r7) (.seq (.seq (.ops parse_stmts_r8) (.cond (.t 26) (.seq (.ops parse_stmts_r9) .ret) .skip)) (.seq (.ops parse_stmts_r10) (.seq (.ops parse_stmts_r11) (.cond (.t 32) (.seq (.ops parse_stmts_r12) .ret) .skip))))))) (.ops parse_stmts_r13))))
def parse_stmts_r14 : List LOper := [
  ⟨some 34, none, .mv false (.t 6)⟩,
  ⟨some 4, none, .mv false (.t 34)⟩,
  ⟨some 5, none, .mv false (.c (.int .i64 0))⟩]
def parse_stmts_f : LFunc := ⟨35, 2, [.tmp 4, .tmp 5], (.seq (.ops parse_stmts_r0) (.seq (.seq (.ops parse_stmts_r1) (.cond (.t 12) (.seq (.ops parse_stmts_r2) .ret) .skip)) (.seq (.ops parse_stmts_r3) (.seq (.seq (.ops parse_stmts_r4) (.block 0 (.loop [1, 6, 13, 14, 15] parse_stmts_b0))) (.seq (.ops parse_stmts_r14) .ret)))))⟩
def parse_stmts_v : VFunc := ⟨parse_stmts_f, true, false, false⟩
theorem parse_stmts_ok : preFunc Tryd.prog ⟨[], [], []⟩ Tryd.f108 [[1, 6, 13, 14, 15]] = some parse_stmts_f := by kernel_rfl

-- gantry/parse.Print
def parse_Print_r0 : List LOper := [
  ⟨some 1, none, .box (.t 0)⟩,
  ⟨some 2, none, .mv false (.c (.str []))⟩,
  ⟨some 3, none, .mv false (.c (.int .i64 0))⟩]
def parse_Print_r1 : List LOper := [
  ⟨some 7, none, .load false true 2 (.t 1)⟩,
  ⟨some 8, none, .call false 77 [(.t 7)]⟩,
  ⟨some 4, none, .mv false (.t 8)⟩]
def parse_Print_r2 : List LOper := [
  ⟨some 9, none, .mv false (.t 4)⟩,
  ⟨some 10, none, .bin .neq (.t 9) (.c (.int .i64 0))⟩]
def parse_Print_r3 : List LOper := [
  ⟨some 11, none, .mv false (.t 4)⟩,
  ⟨some 2, none, .mv false (.c (.str []))⟩,
  ⟨some 3, none, .mv false (.t 11)⟩]
def parse_Print_r4 : List LOper := [
  ⟨some 12, none, .build [.nilslice] []⟩,
  ⟨some 13, none, .box (.t 12)⟩,
  ⟨some 5, none, .mv false (.t 13)⟩]
def parse_Print_r5 : List LOper := [
  ⟨some 14, none, .mv false (.t 5)⟩,
  ⟨some 15, none, .fieldAddr 0 (.t 1)⟩,
  ⟨some 16, none, .load false false 1 (.t 15)⟩,
  ⟨some 17, none, .bslice false 2 1 [.str [], .str []] [(0, 1, (.c (.str [106, 111, 98]))), (1, 1, (.t 16))]⟩,
  ⟨some 18, none, .call false 146 [(.t 14), (.t 17)]⟩]
def parse_Print_r6 : List LOper := [
  ⟨some 19, none, .mv false (.t 5)⟩,
  ⟨some 20, none, .fieldAddr 1 (.t 1)⟩,
  ⟨some 21, none, .load false false 1 (.t 20)⟩,
  ⟨some 22, none, .call false 147 [(.t 19), (.t 21)]⟩]
def parse_Print_r7 : List LOper := [
  ⟨some 23, none, .mv false (.t 5)⟩,
  ⟨some 24, none, .nilchk (.t 23)⟩,
  ⟨some 25, none, .fieldAddr 0 (.t 24)⟩,
  ⟨some 26, none, .load false false 1 (.t 25)⟩,
  ⟨some 27, none, .call false 148 [(.t 26), (.c (.str [32]))]⟩,
  ⟨some 6, none, .mv false (.t 27)⟩]
def parse_Print_r8 : List LOper := [
  ⟨some 28, none, .mv false (.t 6)⟩,
  ⟨some 29, none, .lenS (.t 28)⟩,
  ⟨some 30, none, .bin .gtr (.t 29) (.c (.int .i64 4096))⟩]
def parse_Print_r9 : List LOper := [
  ⟨some 2, none, .mv false (.c (.str []))⟩,
  ⟨some 3, none, .mv false (.c (.int .i64 2))⟩]
def parse_Print_r10 : List LOper := [
  ⟨some 31, none, .mv false (.t 6)⟩,
  ⟨some 2, none, .mv false (.t 31)⟩,
  ⟨some 3, none, .mv false (.c (.int .i64 0))⟩]
def parse_Print_f : LFunc := ⟨32, 1, [.tmp 2, .tmp 3], (.seq (.ops parse_Print_r0) (.seq (.seq (.ops parse_Print_r1) (.seq (.ops parse_Print_r2) (.cond (.t 10) (.seq (.ops parse_Print_r3) .ret) .skip))) (.seq (.ops parse_Print_r4) (.seq (.ops parse_Print_r5) (.seq (.ops parse_Print_r6) (.seq (.ops parse_Print_r7) (.seq (.seq (.ops parse_Print_r8) (.cond (.t 30) (.seq (.ops parse_Print_r9) .ret) .skip)) (.seq (.ops parse_Print_r10) .ret))))))))⟩
def parse_Print_v : VFunc := ⟨parse_Print_f, true, false, false⟩
theorem parse_Print_ok : preFunc Tryd.prog ⟨[], [], []⟩ Tryd.f110 [] = some parse_Print_f := by kernel_rfl

-- gantry/parse.Leaves$1
def parse_Leaves_1_r0 : List LOper := [
  ⟨some 10, none, .mv false (.t 0)⟩,
  ⟨some 11, none, .lenL (.t 10)⟩,
  ⟨some 12, none, .mv false (.c (.int .i64 0))⟩]
def parse_Leaves_1_r1 : List LOper := [
  ⟨some 13, none, .bin .lss (.t 12) (.t 11)⟩]
def parse_Leaves_1_r2 : List LOper := [
  ⟨some 14, none, .indexAddr 8 (.t 10) (.t 12)⟩,
  ⟨some 15, none, .load false true 8 (.t 14)⟩,
  ⟨some 7, none, .alloc [.int .i64 0, .str [], .str [], .bool false, .str [], .str [], .int .i64 0, .nilslice]⟩,
  ⟨none, none, .store 8 (.t 7) (.t 15)⟩]
def parse_Leaves_1_r3 : List LOper := [
  ⟨some 16, none, .fieldAddr 0 (.t 7)⟩,
  ⟨some 17, none, .load false false 1 (.t 16)⟩,
  ⟨some 18, none, .bin .lss (.t 17) (.c (.int .i64 6))⟩]
def parse_Leaves_1_r4 : List LOper := [
  ⟨some 19, none, .load true false 1 (.t 2)⟩,
  ⟨some 20, none, .load false true 8 (.t 7)⟩,
  ⟨some 21, none, .bslice false 1 8 [.int .i64 0, .str [], .str [], .bool false, .str [], .str [], .int .i64 0, .nilslice] [(0, 8, (.t 20))]⟩,
  ⟨some 22, none, .append true 8 112 (.t 19) (.t 21)⟩,
  ⟨none, none, .store 1 (.t 2) (.t 22)⟩]
def parse_Leaves_1_r5 : List LOper := [
  ⟨some 23, none, .fieldAddr 7 (.t 7)⟩,
  ⟨some 24, none, .load false false 1 (.t 23)⟩,
  ⟨some 25, none, .lenL (.t 24)⟩,
  ⟨some 26, none, .mv false (.c (.int .i64 0))⟩]
def parse_Leaves_1_r6 : List LOper := [
  ⟨some 27, none, .bin .lss (.t 26) (.t 25)⟩]
def parse_Leaves_1_r7 : List LOper := [
  ⟨some 28, none, .indexAddr 1 (.t 24) (.t 26)⟩,
  ⟨some 29, none, .load false false 1 (.t 28)⟩,
  ⟨some 9, none, .mv false (.t 29)⟩]
def parse_Leaves_1_r8 : List LOper := [
  ⟨some 30, none, .load false false 1 (.t 3)⟩,
  ⟨some 31, none, .mv false (.t 9)⟩,
  ⟨some 32, none, .mv false (.t 1)⟩,
  ⟨some 33, none, .bin .add (.t 32) (.c (.int .i64 1))⟩,
  ⟨some 34, none, .callv (.t 30) [(.t 31), (.t 33)]⟩]
def parse_Leaves_1_r9 : List LOper := [
  ⟨some 35, none, .bin .add (.t 26) (.c (.int .i64 1))⟩,
  ⟨some 26, none, .mv false (.t 35)⟩]
def parse_Leaves_1_b1 : LCode := (.seq (.ops parse_Leaves_1_r6) (.seq (.cond (.t 27) .skip (.exit 2)) (.seq (.block 3 (.seq (.ops parse_Leaves_1_r7) (.ops parse_Leaves_1_r8))) (.ops parse_Leaves_1_r9))))
def parse_Leaves_1_r10 : List LOper := [
  ⟨some 36, none, .bin .add (.t 12) (.c (.int .i64 1))⟩,
  ⟨some 12, none, .mv false (.t 36)⟩]
def parse_Leaves_1_b0 : LCode := (.seq (.ops parse_Leaves_1_r1) (.seq (.cond (.t 13) .skip (.exit 0)) (.seq (.block 1 (.seq (.ops parse_Leaves_1_r2) (.seq (.seq (.ops parse_Leaves_1_r3) (.cond (.t 18) (.ops parse_Leaves_1_r4) .skip)) (.seq (.ops parse_Leaves_1_r5) (.block 2 (.loop [1, 2, 3, 10, 11, 12, 24, 25, 26] parse_Leaves_1_b1)))))) (.ops parse_Leaves_1_r10))))
def parse_Leaves_1_f : LFunc := ⟨37, 4, [], (.seq (.ops parse_Leaves_1_r0) (.block 0 (.loop [1, 2, 3, 10, 11, 12] parse_Leaves_1_b0)))⟩
def parse_Leaves_1_v : VFunc := ⟨parse_Leaves_1_f, false, false, false⟩
theorem parse_Leaves_1_ok : preFunc Tryd.prog ⟨[19], [], []⟩ Tryd.f111 [[1, 2, 3, 10, 11, 12], [1, 2, 3, 10, 11, 12, 24, 25, 26]] = some parse_Leaves_1_f := by kernel_rfl

-- slices.Reverse[[]byte,byte]
def slices_Reverse_bytebyte_r0 : List LOper := [
  ⟨some 4, none, .mv false (.t 0)⟩,
  ⟨some 5, none, .lenL (.t 4)⟩,
  ⟨some 6, none, .bin .sub (.t 5) (.c (.int .i64 1))⟩,
  ⟨some 2, none, .mv false (.c (.int .i64 0))⟩,
  ⟨some 3, none, .mv false (.t 6)⟩]
def slices_Reverse_bytebyte_r1 : List LOper := [
  ⟨some 7, none, .mv false (.t 2)⟩,
  ⟨some 8, none, .mv false (.t 3)⟩,
  ⟨some 9, none, .bin .lss (.t 7) (.t 8)⟩]
def slices_Reverse_bytebyte_r2 : List LOper := [
  ⟨some 14, none, .mv false (.t 0)⟩,
  ⟨some 15, none, .mv false (.t 2)⟩,
  ⟨some 16, none, .mv false (.t 0)⟩,
  ⟨some 17, none, .mv false (.t 3)⟩,
  ⟨some 18, none, .mv false (.t 0)⟩,
  ⟨some 19, none, .mv false (.t 3)⟩,
  ⟨some 20, none, .indexAddr 1 (.t 18) (.t 19)⟩,
  ⟨some 21, none, .load false false 1 (.t 20)⟩,
  ⟨some 22, none, .mv false (.t 0)⟩,
  ⟨some 23, none, .mv false (.t 2)⟩,
  ⟨some 24, none, .indexAddr 1 (.t 22) (.t 23)⟩,
  ⟨some 25, none, .load false false 1 (.t 24)⟩,
  ⟨some 26, none, .indexAddr 1 (.t 14) (.t 15)⟩,
  ⟨none, none, .store 1 (.t 26) (.t 21)⟩,
  ⟨some 27, none, .indexAddr 1 (.t 16) (.t 17)⟩,
  ⟨none, none, .store 1 (.t 27) (.t 25)⟩]
theorem slices_Reverse_bytebyte_r2_d : drawC [0, 0, 0, 0, 0, 0, 48, 112, 0, 0, 768, 1792, 4083, 8179, 16383, 32767] [
  ⟨some 14, none, .mv false (.t 0)⟩,
  ⟨some 15, none, .mv false (.t 2)⟩,
  ⟨some 16, none, .mv false (.t 0)⟩,
  ⟨some 17, none, .mv false (.t 3)⟩,
  ⟨some 18, none, .mv false (.t 0)⟩,
  ⟨some 19, none, .mv false (.t 3)⟩,
  ⟨some 20, none, .indexAddr 1 (.t 18) (.t 19)⟩,
  ⟨some 21, none, .load false false 1 (.t 20)⟩,
  ⟨some 22, none, .mv false (.t 0)⟩,
  ⟨some 23, none, .mv false (.t 2)⟩,
  ⟨some 24, none, .indexAddr 1 (.t 22) (.t 23)⟩,
  ⟨some 25, none, .load false false 1 (.t 24)⟩,
  ⟨some 26, none, .indexAddr 1 (.t 14) (.t 15)⟩,
  ⟨none, none, .store 1 (.t 26) (.t 21)⟩,
  ⟨some 27, none, .indexAddr 1 (.t 16) (.t 17)⟩,
  ⟨none, none, .store 1 (.t 27) (.t 25)⟩] = true := by kernel_rfl
def slices_Reverse_bytebyte_r3 : List LOper := [
  ⟨some 10, none, .mv false (.t 2)⟩,
  ⟨some 11, none, .bin .add (.t 10) (.c (.int .i64 1))⟩,
  ⟨some 12, none, .mv false (.t 3)⟩,
  ⟨some 13, none, .bin .sub (.t 12) (.c (.int .i64 1))⟩,
  ⟨some 2, none, .mv false (.t 11)⟩,
  ⟨some 3, none, .mv false (.t 13)⟩]
def slices_Reverse_bytebyte_b0 : LCode := (.seq (.seq (.ops slices_Reverse_bytebyte_r1) (.cond (.t 9) .skip (.exit 0))) (.seq (.block 1 (.dops [0, 0, 0, 0, 0, 0, 48, 112, 0, 0, 768, 1792, 4083, 8179, 16383, 32767] slices_Reverse_bytebyte_r2)) (.ops slices_Reverse_bytebyte_r3)))
def slices_Reverse_bytebyte_f : LFunc := ⟨28, 1, [], (.seq (.ops slices_Reverse_bytebyte_r0) (.block 0 (.loop [0, 2, 3] slices_Reverse_bytebyte_b0)))⟩
def slices_Reverse_bytebyte_v : VFunc := ⟨slices_Reverse_bytebyte_f, true, false, false⟩
theorem slices_Reverse_bytebyte_ok : preFunc Tryd.prog ⟨[], [], []⟩ Tryd.f114 [[0, 2, 3]] = some slices_Reverse_bytebyte_f := by kernel_rfl

-- gantry/rat.Good
def rat_Good_r0 : List LOper := [
  ⟨some 1, none, .box (.t 0)⟩,
  ⟨some 2, none, .mv false (.c (.bool false))⟩]
def rat_Good_r1 : List LOper := [
  ⟨some 3, none, .fieldAddr 2 (.t 1)⟩,
  ⟨some 4, none, .load false false 1 (.t 3)⟩,
  ⟨some 5, none, .bin .eql (.t 4) (.c (.str []))⟩,
  ⟨some 6, none, .mv false (.t 5)⟩,
  ⟨some 7, some (6, false), .fieldAddr 2 (.t 1)⟩,
  ⟨some 8, some (6, false), .load false false 1 (.t 7)⟩,
  ⟨some 9, some (6, false), .index (.t 8) (.c (.int .i64 0))⟩,
  ⟨some 10, some (6, false), .bin .eql (.t 9) (.c (.int .u8 0))⟩,
  ⟨some 11, none, .pick (.t 6) (.c (.bool true)) (.t 10)⟩,
  ⟨some 12, none, .mv false (.t 11)⟩,
  ⟨some 13, some (12, false), .fieldAddr 1 (.t 1)⟩,
  ⟨some 14, some (12, false), .load false false 1 (.t 13)⟩,
  ⟨some 15, some (12, false), .bin .eql (.t 14) (.c (.str []))⟩,
  ⟨some 16, some (12, false), .mv false (.t 15)⟩,
  ⟨some 17, some (16, true), .fieldAddr 0 (.t 1)⟩,
  ⟨some 18, some (16, true), .load false false 1 (.t 17)⟩,
  ⟨some 19, some (16, true), .mv false (.t 18)⟩,
  ⟨some 20, some (19, false), .fieldAddr 2 (.t 1)⟩,
  ⟨some 21, some (19, false), .load false false 1 (.t 20)⟩,
  ⟨some 22, some (19, false), .bin .neq (.t 21) (.c (.str [1]))⟩,
  ⟨some 23, some (16, true), .pick (.t 19) (.c (.bool true)) (.t 22)⟩,
  ⟨some 24, some (12, false), .pick (.t 16) (.t 23) (.c (.bool false))⟩,
  ⟨some 25, none, .pick (.t 12) (.c (.bool true)) (.t 24)⟩,
  ⟨some 26, none, .mv false (.t 25)⟩,
  ⟨some 27, some (26, false), .fieldAddr 1 (.t 1)⟩,
  ⟨some 28, some (26, false), .load false false 1 (.t 27)⟩,
  ⟨some 29, some (26, false), .bin .neq (.t 28) (.c (.str []))⟩,
  ⟨some 30, some (26, false), .mv false (.t 29)⟩,
  ⟨some 31, some (30, true), .fieldAddr 1 (.t 1)⟩,
  ⟨some 32, some (30, true), .load false false 1 (.t 31)⟩,
  ⟨some 33, some (30, true), .index (.t 32) (.c (.int .i64 0))⟩,
  ⟨some 34, some (30, true), .bin .eql (.t 33) (.c (.int .u8 0))⟩,
  ⟨some 35, some (26, false), .pick (.t 30) (.t 34) (.c (.bool false))⟩,
  ⟨some 36, none, .pick (.t 26) (.c (.bool true)) (.t 35)⟩]
def rat_Good_r2 : List LOper := [
  ⟨some 2, none, .mv false (.c (.bool false))⟩]
def rat_Good_r3 : List LOper := [
  ⟨some 37, none, .fieldAddr 2 (.t 1)⟩,
  ⟨some 38, none, .load false false 1 (.t 37)⟩,
  ⟨some 39, none, .bin .eql (.t 38) (.c (.str [1]))⟩,
  ⟨some 40, none, .mv false (.t 39)⟩,
  ⟨some 41, some (40, false), .fieldAddr 1 (.t 1)⟩,
  ⟨some 42, some (40, false), .load false false 1 (.t 41)⟩,
  ⟨some 43, some (40, false), .fieldAddr 2 (.t 1)⟩,
  ⟨some 44, some (40, false), .load false false 1 (.t 43)⟩,
  ⟨some 45, some (40, false), .call false 118 [(.t 42), (.t 44)]⟩,
  ⟨some 46, some (40, false), .bin .eql (.t 45) (.c (.str [1]))⟩,
  ⟨some 47, none, .pick (.t 40) (.c (.bool true)) (.t 46)⟩,
  ⟨some 2, none, .mv false (.t 47)⟩]
def rat_Good_f : LFunc := ⟨48, 1, [.tmp 2], (.seq (.ops rat_Good_r0) (.seq (.seq (.ops rat_Good_r1) (.cond (.t 36) (.seq (.ops rat_Good_r2) .ret) .skip)) (.seq (.ops rat_Good_r3) .ret)))⟩
def rat_Good_v : VFunc := ⟨rat_Good_f, true, false, false⟩
theorem rat_Good_ok : preFunc Tryd.prog ⟨[], [], []⟩ Tryd.f115 [] = some rat_Good_f := by kernel_rfl

-- gantry/nat.Gcd
def nat_Gcd_r0 : List LOper := [
  ⟨some 4, none, .mv false (.c (.str []))⟩]
def nat_Gcd_r1 : List LOper := [
  ⟨some 8, none, .mv false (.t 0)⟩,
  ⟨some 9, none, .call false 120 [(.t 8)]⟩,
  ⟨some 10, none, .mv false (.t 1)⟩,
  ⟨some 11, none, .call false 120 [(.t 10)]⟩,
  ⟨some 0, none, .mv false (.t 9)⟩,
  ⟨some 1, none, .mv false (.t 11)⟩]
def nat_Gcd_r2 : List LOper := [
  ⟨some 12, none, .mv false (.t 0)⟩,
  ⟨some 13, none, .bin .neq (.t 12) (.c (.str []))⟩,
  ⟨some 14, none, .mv false (.t 13)⟩,
  ⟨some 15, some (14, true), .mv false (.t 1)⟩,
  ⟨some 16, some (14, true), .bin .neq (.t 15) (.c (.str []))⟩,
  ⟨some 17, none, .pick (.t 14) (.t 16) (.c (.bool false))⟩]
def nat_Gcd_r3 : List LOper := [
  ⟨some 18, none, .mv false (.t 0)⟩,
  ⟨some 19, none, .lenS (.t 18)⟩,
  ⟨some 20, none, .mv false (.t 1)⟩,
  ⟨some 21, none, .lenS (.t 20)⟩,
  ⟨some 22, none, .bin .lss (.t 19) (.t 21)⟩]
def nat_Gcd_r4 : List LOper := [
  ⟨some 23, none, .mv false (.t 1)⟩,
  ⟨some 24, none, .mv false (.t 0)⟩,
  ⟨some 0, none, .mv false (.t 23)⟩,
  ⟨some 1, none, .mv false (.t 24)⟩]
def nat_Gcd_r5 : List LOper := [
  ⟨some 26, none, .mv false (.t 0)⟩,
  ⟨some 27, none, .lenS (.t 26)⟩,
  ⟨some 28, none, .bin .leq (.t 27) (.c (.int .i64 8))⟩,
  ⟨some 25, none, .mv false (.t 28)⟩]
def nat_Gcd_r6 : List LOper := [
  ⟨some 29, none, .mv false (.t 0)⟩,
  ⟨some 30, none, .call false 122 [(.t 29)]⟩,
  ⟨some 31, none, .mv false (.t 1)⟩,
  ⟨some 32, none, .call false 122 [(.t 31)]⟩,
  ⟨some 33, none, .call false 150 [(.t 30), (.t 32)]⟩,
  ⟨some 34, none, .call false 121 [(.t 33)]⟩,
  ⟨some 4, none, .mv false (.t 34)⟩]
def nat_Gcd_r7 : List LOper := [
  ⟨some 36, none, .mv false (.t 0)⟩,
  ⟨some 37, none, .lenS (.t 36)⟩,
  ⟨some 38, none, .mv false (.t 1)⟩,
  ⟨some 39, none, .lenS (.t 38)⟩,
  ⟨some 40, none, .bin .add (.t 39) (.c (.int .i64 8))⟩,
  ⟨some 41, none, .bin .leq (.t 37) (.t 40)⟩,
  ⟨some 35, none, .mv false (.t 41)⟩]
def nat_Gcd_r8 : List LOper := [
  ⟨some 42, none, .mv false (.t 0)⟩,
  ⟨some 43, none, .mv false (.t 1)⟩,
  ⟨some 44, none, .call false 151 [(.t 42), (.t 43)]⟩,
  ⟨some 4, none, .mv false (.t 44)⟩]
def nat_Gcd_r9 : List LOper := [
  ⟨some 46, none, .mv false (.t 0)⟩,
  ⟨some 47, none, .mv false (.t 1)⟩,
  ⟨some 48, none, .call false 119 [(.t 46), (.t 47)]⟩,
  ⟨some 45, none, .mv false (.t 48)⟩,
  ⟨some 49, none, .extract 0 (.t 45)⟩,
  ⟨some 50, none, .extract 1 (.t 45)⟩,
  ⟨some 51, none, .extract 2 (.t 45)⟩,
  ⟨some 5, none, .mv false (.t 49)⟩,
  ⟨some 6, none, .mv false (.t 50)⟩,
  ⟨some 7, none, .mv false (.t 51)⟩]
def nat_Gcd_r10 : List LOper := [
  ⟨some 52, none, .mv false (.t 1)⟩,
  ⟨some 53, none, .mv false (.t 6)⟩,
  ⟨some 0, none, .mv false (.t 52)⟩,
  ⟨some 1, none, .mv false (.t 53)⟩]
def nat_Gcd_b0 : LCode := (.seq (.seq (.ops nat_Gcd_r2) (.cond (.t 17) .skip (.exit 0))) (.block 1 (.seq (.seq (.ops nat_Gcd_r3) (.cond (.t 22) (.ops nat_Gcd_r4) .skip)) (.seq (.block 2 (.seq (.ops nat_Gcd_r5) (.cond (.t 25) (.seq (.ops nat_Gcd_r6) .ret) (.seq (.ops nat_Gcd_r7) (.cond (.t 35) (.seq (.ops nat_Gcd_r8) .ret) .skip))))) (.seq (.ops nat_Gcd_r9) (.ops nat_Gcd_r10))))))
def nat_Gcd_r11 : List LOper := [
  ⟨some 54, none, .mv false (.t 0)⟩,
  ⟨some 55, none, .mv false (.t 1)⟩,
  ⟨some 56, none, .bin .add (.t 54) (.t 55)⟩,
  ⟨some 4, none, .mv false (.t 56)⟩]
def nat_Gcd_f : LFunc := ⟨57, 2, [.tmp 4], (.seq (.ops nat_Gcd_r0) (.seq (.ops nat_Gcd_r1) (.seq (.block 0 (.loop [0, 1] nat_Gcd_b0)) (.seq (.ops nat_Gcd_r11) .ret))))⟩
def nat_Gcd_v : VFunc := ⟨nat_Gcd_f, true, false, false⟩
theorem nat_Gcd_ok : preFunc Tryd.prog ⟨[], [], []⟩ Tryd.f118 [[0, 1]] = some nat_Gcd_f := by kernel_rfl

-- gantry/nat.trim
def nat_trim_r0 : List LOper := [
  ⟨some 2, none, .mv false (.c (.str []))⟩]
def nat_trim_r1 : List LOper := [
  ⟨some 3, none, .mv false (.t 0)⟩,
  ⟨some 4, none, .lenS (.t 3)⟩,
  ⟨some 5, none, .bin .gtr (.t 4) (.c (.int .i64 0))⟩,
  ⟨some 6, none, .mv false (.t 5)⟩,
  ⟨some 7, some (6, true), .mv false (.t 0)⟩,
  ⟨some 8, some (6, true), .index (.t 7) (.c (.int .i64 0))⟩,
  ⟨some 9, some (6, true), .bin .eql (.t 8) (.c (.int .u8 0))⟩,
  ⟨some 10, none, .pick (.t 6) (.t 9) (.c (.bool false))⟩]
def nat_trim_r2 : List LOper := [
  ⟨some 11, none, .mv false (.t 0)⟩,
  ⟨some 12, none, .slc 0 (.t 11) (some (.c (.int .i64 1))) none none⟩,
  ⟨some 0, none, .mv false (.t 12)⟩]
def nat_trim_b0 : LCode := (.seq (.seq (.ops nat_trim_r1) (.cond (.t 10) .skip (.exit 0))) (.block 1 (.ops nat_trim_r2)))
def nat_trim_r3 : List LOper := [
  ⟨some 13, none, .mv false (.t 0)⟩,
  ⟨some 2, none, .mv false (.t 13)⟩]
def nat_trim_f : LFunc := ⟨14, 1, [.tmp 2], (.seq (.ops nat_trim_r0) (.seq (.block 0 (.loop [0] nat_trim_b0)) (.seq (.ops nat_trim_r3) .ret)))⟩
def nat_trim_v : VFunc := ⟨nat_trim_f, true, false, false⟩
theorem nat_trim_ok : preFunc Tryd.prog ⟨[], [], []⟩ Tryd.f120 [[0]] = some nat_trim_f := by kernel_rfl

-- gantry/nat.fromShort
def nat_fromShort_r0 : List LOper := [
  ⟨some 2, none, .mv false (.c (.str []))⟩]
def nat_fromShort_r1 : List LOper := [
  ⟨some 3, none, .alloc [.int .u8 0, .int .u8 0, .int .u8 0, .int .u8 0, .int .u8 0, .int .u8 0, .int .u8 0, .int .u8 0]⟩]
def nat_fromShort_r2 : List LOper := [
  ⟨some 5, none, .mv false (.c (.int .i64 0))⟩]
def nat_fromShort_r3 : List LOper := [
  ⟨some 6, none, .bin .lss (.t 5) (.c (.int .i64 8))⟩]
def nat_fromShort_r4 : List LOper := [
  ⟨some 7, none, .mv false (.t 5)⟩,
  ⟨some 4, none, .mv false (.t 7)⟩]
def nat_fromShort_r5 : List LOper := [
  ⟨some 8, none, .mv false (.t 4)⟩,
  ⟨some 9, none, .mv false (.t 0)⟩,
  ⟨some 10, none, .mv false (.t 4)⟩,
  ⟨some 11, none, .bin .mul (.c (.int .i64 8)) (.t 10)⟩,
  ⟨some 12, none, .bin .sub (.c (.int .i64 56)) (.t 11)⟩,
  ⟨some 13, none, .bin .shr (.t 9) (.t 12)⟩,
  ⟨some 14, none, .conv .u8 (.t 13)⟩,
  ⟨some 15, none, .indexAddrA 8 1 (.t 3) (.t 8)⟩,
  ⟨none, none, .store 1 (.t 15) (.t 14)⟩]
def nat_fromShort_r6 : List LOper := [
  ⟨some 16, none, .bin .add (.t 5) (.c (.int .i64 1))⟩,
  ⟨some 5, none, .mv false (.t 16)⟩]
def nat_fromShort_b0 : LCode := (.seq (.ops nat_fromShort_r3) (.seq (.cond (.t 6) .skip (.exit 0)) (.seq (.block 1 (.seq (.ops nat_fromShort_r4) (.ops nat_fromShort_r5))) (.ops nat_fromShort_r6))))
def nat_fromShort_r7 : List LOper := [
  ⟨some 17, none, .slcA 8 1 (.t 3) none none⟩,
  ⟨some 18, none, .b2s (.t 17)⟩,
  ⟨some 19, none, .call false 120 [(.t 18)]⟩,
  ⟨some 2, none, .mv false (.t 19)⟩]
def nat_fromShort_f : LFunc := ⟨20, 1, [.tmp 2], (.seq (.ops nat_fromShort_r0) (.seq (.ops nat_fromShort_r1) (.seq (.seq (.ops nat_fromShort_r2) (.block 0 (.loop [0, 3, 5] nat_fromShort_b0))) (.seq (.ops nat_fromShort_r7) .ret))))⟩
def nat_fromShort_v : VFunc := ⟨nat_fromShort_f, true, false, false⟩
theorem nat_fromShort_ok : preFunc Tryd.prog ⟨[], [], []⟩ Tryd.f121 [[0, 3, 5]] = some nat_fromShort_f := by kernel_rfl

-- gantry/nat.short
def nat_short_r0 : List LOper := [
  ⟨some 2, none, .mv false (.c (.int .u64 0))⟩]
def nat_short_r1 : List LOper := [
  ⟨some 3, none, .mv false (.c (.int .u64 0))⟩]
def nat_short_r2 : List LOper := [
  ⟨some 5, none, .mv false (.t 0)⟩,
  ⟨some 6, none, .lenS (.t 5)⟩,
  ⟨some 7, none, .mv false (.c (.int .i64 0))⟩]
def nat_short_r3 : List LOper := [
  ⟨some 8, none, .bin .lss (.t 7) (.t 6)⟩]
def nat_short_r4 : List LOper := [
  ⟨some 9, none, .mv false (.t 7)⟩,
  ⟨some 4, none, .mv false (.t 9)⟩]
def nat_short_r5 : List LOper := [
  ⟨some 10, none, .mv false (.t 3)⟩,
  ⟨some 11, none, .bin .shl (.t 10) (.c (.int .u64 8))⟩,
  ⟨some 12, none, .mv false (.t 0)⟩,
  ⟨some 13, none, .mv false (.t 4)⟩,
  ⟨some 14, none, .index (.t 12) (.t 13)⟩,
  ⟨some 15, none, .conv .u64 (.t 14)⟩,
  ⟨some 16, none, .bin .or (.t 11) (.t 15)⟩,
  ⟨some 3, none, .mv false (.t 16)⟩]
def nat_short_r6 : List LOper := [
  ⟨some 17, none, .bin .add (.t 7) (.c (.int .i64 1))⟩,
  ⟨some 7, none, .mv false (.t 17)⟩]
def nat_short_b0 : LCode := (.seq (.ops nat_short_r3) (.seq (.cond (.t 8) .skip (.exit 0)) (.seq (.block 1 (.seq (.ops nat_short_r4) (.ops nat_short_r5))) (.ops nat_short_r6))))
def nat_short_r7 : List LOper := [
  ⟨some 18, none, .mv false (.t 3)⟩,
  ⟨some 2, none, .mv false (.t 18)⟩]
def nat_short_f : LFunc := ⟨19, 1, [.tmp 2], (.seq (.ops nat_short_r0) (.seq (.ops nat_short_r1) (.seq (.seq (.ops nat_short_r2) (.block 0 (.loop [0, 3, 6, 7] nat_short_b0))) (.seq (.ops nat_short_r7) .ret))))⟩
def nat_short_v : VFunc := ⟨nat_short_f, true, false, false⟩
theorem nat_short_ok : preFunc Tryd.prog ⟨[], [], []⟩ Tryd.f122 [[0, 3, 6, 7]] = some nat_short_f := by kernel_rfl

-- strings.Compare
def strings_Compare_r0 : List LOper := [
  ⟨some 4, none, .mv false (.c (.int .i64 0))⟩]
def strings_Compare_r1 : List LOper := [
  ⟨some 5, none, .mv false (.t 0)⟩,
  ⟨some 6, none, .mv false (.t 1)⟩,
  ⟨some 7, none, .call false 153 [(.t 5), (.t 6)]⟩,
  ⟨some 4, none, .mv false (.t 7)⟩]
def strings_Compare_f : LFunc := ⟨8, 2, [.tmp 4], (.seq (.ops strings_Compare_r0) (.seq (.ops strings_Compare_r1) .ret))⟩
def strings_Compare_v : VFunc := ⟨strings_Compare_f, true, false, false⟩
theorem strings_Compare_ok : preFunc Tryd.prog ⟨[], [], []⟩ Tryd.f125 [] = some strings_Compare_f := by kernel_rfl

-- gantry/parse.Name
def parse_Name_r0 : List LOper := [
  ⟨some 2, none, .mv false (.c (.bool false))⟩]
def parse_Name_r1 : List LOper := [
  ⟨some 3, none, .mv false (.t 0)⟩,
  ⟨some 4, none, .call false 154 [(.t 3)]⟩,
  ⟨some 5, none, .mv false (.t 4)⟩,
  ⟨some 6, some (5, true), .mv false (.t 0)⟩,
  ⟨some 7, some (5, true), .call false 155 [(.t 6)]⟩,
  ⟨some 8, some (5, true), .un .not (.t 7)⟩,
  ⟨some 9, none, .pick (.t 5) (.t 8) (.c (.bool false))⟩,
  ⟨some 2, none, .mv false (.t 9)⟩]
def parse_Name_f : LFunc := ⟨10, 1, [.tmp 2], (.seq (.ops parse_Name_r0) (.seq (.ops parse_Name_r1) .ret))⟩
def parse_Name_v : VFunc := ⟨parse_Name_f, true, false, false⟩
theorem parse_Name_ok : preFunc Tryd.prog ⟨[], [], []⟩ Tryd.f127 [] = some parse_Name_f := by kernel_rfl

-- gantry/gantkeep4.stmt
def gantkeep4_stmt_r0 : List LOper := [
  ⟨some 3, none, .box (.t 0)⟩,
  ⟨some 6, none, .alloc [.int .i64 0, .str [], .str [], .bool false, .str [], .str [], .int .i64 0, .nilslice]⟩]
def gantkeep4_stmt_r1 : List LOper := [
  ⟨some 10, none, .fieldAddr 2 (.t 3)⟩,
  ⟨some 11, none, .load false false 1 (.t 10)⟩,
  ⟨some 12, none, .mv false (.t 1)⟩,
  ⟨some 13, none, .fieldAddr 2 (.t 3)⟩,
  ⟨some 14, none, .load false false 1 (.t 13)⟩,
  ⟨some 15, none, .lenL (.t 14)⟩,
  ⟨some 16, none, .call false 58 [(.t 12), (.t 15)]⟩,
  ⟨some 17, none, .indexAddr 12 (.t 11) (.t 16)⟩,
  ⟨some 18, none, .fieldAddr 0 (.t 17)⟩,
  ⟨some 19, none, .load false false 1 (.t 18)⟩,
  ⟨some 7, none, .mv false (.t 19)⟩]
theorem gantkeep4_stmt_r1_d : drawC [0, 1, 0, 0, 8, 24, 60, 127, 255, 511, 1023] [
  ⟨some 10, none, .fieldAddr 2 (.t 3)⟩,
  ⟨some 11, none, .load false false 1 (.t 10)⟩,
  ⟨some 12, none, .mv false (.t 1)⟩,
  ⟨some 13, none, .fieldAddr 2 (.t 3)⟩,
  ⟨some 14, none, .load false false 1 (.t 13)⟩,
  ⟨some 15, none, .lenL (.t 14)⟩,
  ⟨some 16, none, .call false 58 [(.t 12), (.t 15)]⟩,
  ⟨some 17, none, .indexAddr 12 (.t 11) (.t 16)⟩,
  ⟨some 18, none, .fieldAddr 0 (.t 17)⟩,
  ⟨some 19, none, .load false false 1 (.t 18)⟩,
  ⟨some 7, none, .mv false (.t 19)⟩] = false ∧ drawW [0, 1, 0, 0, 8, 24, 60, 127, 255, 511, 1023] [
  ⟨some 10, none, .fieldAddr 2 (.t 3)⟩,
  ⟨some 11, none, .load false false 1 (.t 10)⟩,
  ⟨some 12, none, .mv false (.t 1)⟩,
  ⟨some 13, none, .fieldAddr 2 (.t 3)⟩,
  ⟨some 14, none, .load false false 1 (.t 13)⟩,
  ⟨some 15, none, .lenL (.t 14)⟩,
  ⟨some 16, none, .call false 58 [(.t 12), (.t 15)]⟩,
  ⟨some 17, none, .indexAddr 12 (.t 11) (.t 16)⟩,
  ⟨some 18, none, .fieldAddr 0 (.t 17)⟩,
  ⟨some 19, none, .load false false 1 (.t 18)⟩,
  ⟨some 7, none, .mv false (.t 19)⟩] = true := ⟨by kernel_rfl, by kernel_rfl⟩
def gantkeep4_stmt_r2 : List LOper := [
  ⟨some 20, none, .mv false (.t 1)⟩,
  ⟨some 21, none, .call false 58 [(.t 20), (.c (.int .i64 8))]⟩,
  ⟨some 8, none, .mv false (.t 21)⟩]
def gantkeep4_stmt_r3 : List LOper := [
  ⟨some 22, none, .mv false (.t 2)⟩,
  ⟨some 23, none, .bin .gtr (.t 22) (.c (.int .i64 2))⟩]
def gantkeep4_stmt_r4 : List LOper := [
  ⟨some 24, none, .mv false (.t 8)⟩,
  ⟨some 25, none, .bin .rem (.t 24) (.c (.int .i64 5))⟩,
  ⟨some 8, none, .mv false (.t 25)⟩]
def gantkeep4_stmt_r5 : List LOper := [
  ⟨some 26, none, .mv false (.t 8)⟩]
def gantkeep4_stmt_r6 : List LOper := [
  ⟨some 28, none, .bin .eql (.t 26) (.c (.int .i64 0))⟩,
  ⟨some 27, none, .mv false (.t 28)⟩]
def gantkeep4_stmt_r7 : List LOper := [
  ⟨some 29, none, .bin .eql (.t 26) (.c (.int .i64 1))⟩,
  ⟨some 27, none, .mv false (.t 29)⟩]
def gantkeep4_stmt_r8 : List LOper := [
  ⟨some 30, none, .mv false (.t 7)⟩,
  ⟨some 31, none, .fieldAddr 3 (.t 3)⟩,
  ⟨some 32, none, .load false false 1 (.t 31)⟩,
  ⟨some 33, none, .mv false (.t 1)⟩,
  ⟨some 34, none, .fieldAddr 3 (.t 3)⟩,
  ⟨some 35, none, .load false false 1 (.t 34)⟩,
  ⟨some 36, none, .lenL (.t 35)⟩,
  ⟨some 37, none, .call false 58 [(.t 33), (.t 36)]⟩,
  ⟨some 38, none, .indexAddr 14 (.t 32) (.t 37)⟩,
  ⟨some 39, none, .fieldAddr 0 (.t 38)⟩,
  ⟨some 40, none, .load false false 1 (.t 39)⟩,
  ⟨some 41, none, .build [.int .i64 0, .str [], .str [], .bool false, .str [], .str [], .int .i64 0, .nilslice] [(0, 1, (.c (.int .i64 1))), (1, 1, (.t 30)), (2, 1, (.t 40))]⟩,
  ⟨some 9, none, .alloc [.int .i64 0, .str [], .str [], .bool false, .str [], .str [], .int .i64 0, .nilslice]⟩,
  ⟨none, none, .store 8 (.t 9) (.t 41)⟩]
theorem gantkeep4_stmt_r8_d : drawC [0, 0, 2, 0, 0, 16, 48, 120, 254, 510, 1022, 2047, 0, 8191] [
  ⟨some 30, none, .mv false (.t 7)⟩,
  ⟨some 31, none, .fieldAddr 3 (.t 3)⟩,
  ⟨some 32, none, .load false false 1 (.t 31)⟩,
  ⟨some 33, none, .mv false (.t 1)⟩,
  ⟨some 34, none, .fieldAddr 3 (.t 3)⟩,
  ⟨some 35, none, .load false false 1 (.t 34)⟩,
  ⟨some 36, none, .lenL (.t 35)⟩,
  ⟨some 37, none, .call false 58 [(.t 33), (.t 36)]⟩,
  ⟨some 38, none, .indexAddr 14 (.t 32) (.t 37)⟩,
  ⟨some 39, none, .fieldAddr 0 (.t 38)⟩,
  ⟨some 40, none, .load false false 1 (.t 39)⟩,
  ⟨some 41, none, .build [.int .i64 0, .str [], .str [], .bool false, .str [], .str [], .int .i64 0, .nilslice] [(0, 1, (.c (.int .i64 1))), (1, 1, (.t 30)), (2, 1, (.t 40))]⟩,
  ⟨some 9, none, .alloc [.int .i64 0, .str [], .str [], .bool false, .str [], .str [], .int .i64 0, .nilslice]⟩,
  ⟨none, none, .store 8 (.t 9) (.t 41)⟩] = false ∧ drawW [0, 0, 2, 0, 0, 16, 48, 120, 254, 510, 1022, 2047, 0, 8191] [
  ⟨some 30, none, .mv false (.t 7)⟩,
  ⟨some 31, none, .fieldAddr 3 (.t 3)⟩,
  ⟨some 32, none, .load false false 1 (.t 31)⟩,
  ⟨some 33, none, .mv false (.t 1)⟩,
  ⟨some 34, none, .fieldAddr 3 (.t 3)⟩,
  ⟨some 35, none, .load false false 1 (.t 34)⟩,
  ⟨some 36, none, .lenL (.t 35)⟩,
  ⟨some 37, none, .call false 58 [(.t 33), (.t 36)]⟩,
  ⟨some 38, none, .indexAddr 14 (.t 32) (.t 37)⟩,
  ⟨some 39, none, .fieldAddr 0 (.t 38)⟩,
  ⟨some 40, none, .load false false 1 (.t 39)⟩,
  ⟨some 41, none, .build [.int .i64 0, .str [], .str [], .bool false, .str [], .str [], .int .i64 0, .nilslice] [(0, 1, (.c (.int .i64 1))), (1, 1, (.t 30)), (2, 1, (.t 40))]⟩,
  ⟨some 9, none, .alloc [.int .i64 0, .str [], .str [], .bool false, .str [], .str [], .int .i64 0, .nilslice]⟩,
  ⟨none, none, .store 8 (.t 9) (.t 41)⟩] = false ∧ isX [0, 0, 2, 0, 0, 16, 48, 120, 254, 510, 1022, 2047, 0, 8191] [
  ⟨some 30, none, .mv false (.t 7)⟩,
  ⟨some 31, none, .fieldAddr 3 (.t 3)⟩,
  ⟨some 32, none, .load false false 1 (.t 31)⟩,
  ⟨some 33, none, .mv false (.t 1)⟩,
  ⟨some 34, none, .fieldAddr 3 (.t 3)⟩,
  ⟨some 35, none, .load false false 1 (.t 34)⟩,
  ⟨some 36, none, .lenL (.t 35)⟩,
  ⟨some 37, none, .call false 58 [(.t 33), (.t 36)]⟩,
  ⟨some 38, none, .indexAddr 14 (.t 32) (.t 37)⟩,
  ⟨some 39, none, .fieldAddr 0 (.t 38)⟩,
  ⟨some 40, none, .load false false 1 (.t 39)⟩,
  ⟨some 41, none, .build [.int .i64 0, .str [], .str [], .bool false, .str [], .str [], .int .i64 0, .nilslice] [(0, 1, (.c (.int .i64 1))), (1, 1, (.t 30)), (2, 1, (.t 40))]⟩,
  ⟨some 9, none, .alloc [.int .i64 0, .str [], .str [], .bool false, .str [], .str [], .int .i64 0, .nilslice]⟩,
  ⟨none, none, .store 8 (.t 9) (.t 41)⟩] = false ∧ allocPair [0, 0, 2, 0, 0, 16, 48, 120, 254, 510, 1022, 2047, 0, 8191] [
  ⟨some 30, none, .mv false (.t 7)⟩,
  ⟨some 31, none, .fieldAddr 3 (.t 3)⟩,
  ⟨some 32, none, .load false false 1 (.t 31)⟩,
  ⟨some 33, none, .mv false (.t 1)⟩,
  ⟨some 34, none, .fieldAddr 3 (.t 3)⟩,
  ⟨some 35, none, .load false false 1 (.t 34)⟩,
  ⟨some 36, none, .lenL (.t 35)⟩,
  ⟨some 37, none, .call false 58 [(.t 33), (.t 36)]⟩,
  ⟨some 38, none, .indexAddr 14 (.t 32) (.t 37)⟩,
  ⟨some 39, none, .fieldAddr 0 (.t 38)⟩,
  ⟨some 40, none, .load false false 1 (.t 39)⟩,
  ⟨some 41, none, .build [.int .i64 0, .str [], .str [], .bool false, .str [], .str [], .int .i64 0, .nilslice] [(0, 1, (.c (.int .i64 1))), (1, 1, (.t 30)), (2, 1, (.t 40))]⟩,
  ⟨some 9, none, .alloc [.int .i64 0, .str [], .str [], .bool false, .str [], .str [], .int .i64 0, .nilslice]⟩,
  ⟨none, none, .store 8 (.t 9) (.t 41)⟩] = none ∧ wrPair [0, 0, 2, 0, 0, 16, 48, 120, 254, 510, 1022, 2047, 0, 8191] [
  ⟨some 30, none, .mv false (.t 7)⟩,
  ⟨some 31, none, .fieldAddr 3 (.t 3)⟩,
  ⟨some 32, none, .load false false 1 (.t 31)⟩,
  ⟨some 33, none, .mv false (.t 1)⟩,
  ⟨some 34, none, .fieldAddr 3 (.t 3)⟩,
  ⟨some 35, none, .load false false 1 (.t 34)⟩,
  ⟨some 36, none, .lenL (.t 35)⟩,
  ⟨some 37, none, .call false 58 [(.t 33), (.t 36)]⟩,
  ⟨some 38, none, .indexAddr 14 (.t 32) (.t 37)⟩,
  ⟨some 39, none, .fieldAddr 0 (.t 38)⟩,
  ⟨some 40, none, .load false false 1 (.t 39)⟩,
  ⟨some 41, none, .build [.int .i64 0, .str [], .str [], .bool false, .str [], .str [], .int .i64 0, .nilslice] [(0, 1, (.c (.int .i64 1))), (1, 1, (.t 30)), (2, 1, (.t 40))]⟩,
  ⟨some 9, none, .alloc [.int .i64 0, .str [], .str [], .bool false, .str [], .str [], .int .i64 0, .nilslice]⟩,
  ⟨none, none, .store 8 (.t 9) (.t 41)⟩] = some (7, 12) ∧ drawZ [0, 0, 2, 0, 0, 16, 48, 120, 254, 510, 1022, 2047, 0, 8191] [
  ⟨some 30, none, .mv false (.t 7)⟩,
  ⟨some 31, none, .fieldAddr 3 (.t 3)⟩,
  ⟨some 32, none, .load false false 1 (.t 31)⟩,
  ⟨some 33, none, .mv false (.t 1)⟩,
  ⟨some 34, none, .fieldAddr 3 (.t 3)⟩,
  ⟨some 35, none, .load false false 1 (.t 34)⟩,
  ⟨some 36, none, .lenL (.t 35)⟩,
  ⟨some 37, none, .call false 58 [(.t 33), (.t 36)]⟩,
  ⟨some 38, none, .indexAddr 14 (.t 32) (.t 37)⟩,
  ⟨some 39, none, .fieldAddr 0 (.t 38)⟩,
  ⟨some 40, none, .load false false 1 (.t 39)⟩,
  ⟨some 41, none, .build [.int .i64 0, .str [], .str [], .bool false, .str [], .str [], .int .i64 0, .nilslice] [(0, 1, (.c (.int .i64 1))), (1, 1, (.t 30)), (2, 1, (.t 40))]⟩,
  ⟨some 9, none, .alloc [.int .i64 0, .str [], .str [], .bool false, .str [], .str [], .int .i64 0, .nilslice]⟩,
  ⟨none, none, .store 8 (.t 9) (.t 41)⟩] 7 12 = true ∧ moveBk 7 12 [
  ⟨some 30, none, .mv false (.t 7)⟩,
  ⟨some 31, none, .fieldAddr 3 (.t 3)⟩,
  ⟨some 32, none, .load false false 1 (.t 31)⟩,
  ⟨some 33, none, .mv false (.t 1)⟩,
  ⟨some 34, none, .fieldAddr 3 (.t 3)⟩,
  ⟨some 35, none, .load false false 1 (.t 34)⟩,
  ⟨some 36, none, .lenL (.t 35)⟩,
  ⟨some 37, none, .call false 58 [(.t 33), (.t 36)]⟩,
  ⟨some 38, none, .indexAddr 14 (.t 32) (.t 37)⟩,
  ⟨some 39, none, .fieldAddr 0 (.t 38)⟩,
  ⟨some 40, none, .load false false 1 (.t 39)⟩,
  ⟨some 41, none, .build [.int .i64 0, .str [], .str [], .bool false, .str [], .str [], .int .i64 0, .nilslice] [(0, 1, (.c (.int .i64 1))), (1, 1, (.t 30)), (2, 1, (.t 40))]⟩,
  ⟨some 9, none, .alloc [.int .i64 0, .str [], .str [], .bool false, .str [], .str [], .int .i64 0, .nilslice]⟩,
  ⟨none, none, .store 8 (.t 9) (.t 41)⟩] = [
  ⟨some 30, none, .mv false (.t 7)⟩,
  ⟨some 31, none, .fieldAddr 3 (.t 3)⟩,
  ⟨some 32, none, .load false false 1 (.t 31)⟩,
  ⟨some 33, none, .mv false (.t 1)⟩,
  ⟨some 34, none, .fieldAddr 3 (.t 3)⟩,
  ⟨some 35, none, .load false false 1 (.t 34)⟩,
  ⟨some 36, none, .lenL (.t 35)⟩,
  ⟨some 9, none, .alloc [.int .i64 0, .str [], .str [], .bool false, .str [], .str [], .int .i64 0, .nilslice]⟩,
  ⟨some 37, none, .call false 58 [(.t 33), (.t 36)]⟩,
  ⟨some 38, none, .indexAddr 14 (.t 32) (.t 37)⟩,
  ⟨some 39, none, .fieldAddr 0 (.t 38)⟩,
  ⟨some 40, none, .load false false 1 (.t 39)⟩,
  ⟨some 41, none, .build [.int .i64 0, .str [], .str [], .bool false, .str [], .str [], .int .i64 0, .nilslice] [(0, 1, (.c (.int .i64 1))), (1, 1, (.t 30)), (2, 1, (.t 40))]⟩,
  ⟨none, none, .store 8 (.t 9) (.t 41)⟩] := ⟨by kernel_rfl, by kernel_rfl, by kernel_rfl, by kernel_rfl, by kernel_rfl, by kernel_rfl, by kernel_rfl⟩
def gantkeep4_stmt_r9 : List LOper := [
  ⟨some 42, none, .mv false (.t 1)⟩,
  ⟨some 43, none, .call false 58 [(.t 42), (.c (.int .i64 3))]⟩,
  ⟨some 44, none, .bin .eql (.t 43) (.c (.int .i64 0))⟩]
def gantkeep4_stmt_r10 : List LOper := [
  ⟨some 45, none, .mv false (.t 1)⟩,
  ⟨some 46, none, .call false 58 [(.t 45), (.c (.int .i64 5))]⟩,
  ⟨some 47, none, .bin .add (.c (.int .i64 4)) (.t 46)⟩,
  ⟨some 48, none, .call false 20 [(.c (.int .i64 1)), (.t 47)]⟩,
  ⟨some 49, none, .fieldAddr 3 (.t 9)⟩,
  ⟨none, none, .store 3 (.t 49) (.t 48)⟩]
def gantkeep4_stmt_r11 : List LOper := [
  ⟨some 50, none, .load false true 8 (.t 9)⟩,
  ⟨none, none, .store 8 (.t 6) (.t 50)⟩]
def gantkeep4_stmt_r12 : List LOper := [
  ⟨some 52, none, .bin .eql (.t 26) (.c (.int .i64 2))⟩,
  ⟨some 51, none, .mv false (.t 52)⟩]
def gantkeep4_stmt_r13 : List LOper := [
  ⟨some 53, none, .mv false (.t 7)⟩,
  ⟨some 54, none, .fieldAddr 0 (.t 3)⟩,
  ⟨some 55, none, .load false false 1 (.t 54)⟩,
  ⟨some 56, none, .mv false (.t 1)⟩,
  ⟨some 57, none, .fieldAddr 0 (.t 3)⟩,
  ⟨some 58, none, .load false false 1 (.t 57)⟩,
  ⟨some 59, none, .lenL (.t 58)⟩,
  ⟨some 60, none, .call false 58 [(.t 56), (.t 59)]⟩,
  ⟨some 61, none, .indexAddr 12 (.t 55) (.t 60)⟩,
  ⟨some 62, none, .fieldAddr 0 (.t 61)⟩,
  ⟨some 63, none, .load false false 1 (.t 62)⟩,
  ⟨some 64, none, .build [.int .i64 0, .str [], .str [], .bool false, .str [], .str [], .int .i64 0, .nilslice] [(0, 1, (.c (.int .i64 2))), (1, 1, (.t 53)), (2, 1, (.t 63))]⟩,
  ⟨none, none, .store 8 (.t 6) (.t 64)⟩]
theorem gantkeep4_stmt_r13_d : drawC [0, 0, 2, 0, 0, 16, 48, 120, 254, 510, 1022, 2047, 4095] [
  ⟨some 53, none, .mv false (.t 7)⟩,
  ⟨some 54, none, .fieldAddr 0 (.t 3)⟩,
  ⟨some 55, none, .load false false 1 (.t 54)⟩,
  ⟨some 56, none, .mv false (.t 1)⟩,
  ⟨some 57, none, .fieldAddr 0 (.t 3)⟩,
  ⟨some 58, none, .load false false 1 (.t 57)⟩,
  ⟨some 59, none, .lenL (.t 58)⟩,
  ⟨some 60, none, .call false 58 [(.t 56), (.t 59)]⟩,
  ⟨some 61, none, .indexAddr 12 (.t 55) (.t 60)⟩,
  ⟨some 62, none, .fieldAddr 0 (.t 61)⟩,
  ⟨some 63, none, .load false false 1 (.t 62)⟩,
  ⟨some 64, none, .build [.int .i64 0, .str [], .str [], .bool false, .str [], .str [], .int .i64 0, .nilslice] [(0, 1, (.c (.int .i64 2))), (1, 1, (.t 53)), (2, 1, (.t 63))]⟩,
  ⟨none, none, .store 8 (.t 6) (.t 64)⟩] = false ∧ drawW [0, 0, 2, 0, 0, 16, 48, 120, 254, 510, 1022, 2047, 4095] [
  ⟨some 53, none, .mv false (.t 7)⟩,
  ⟨some 54, none, .fieldAddr 0 (.t 3)⟩,
  ⟨some 55, none, .load false false 1 (.t 54)⟩,
  ⟨some 56, none, .mv false (.t 1)⟩,
  ⟨some 57, none, .fieldAddr 0 (.t 3)⟩,
  ⟨some 58, none, .load false false 1 (.t 57)⟩,
  ⟨some 59, none, .lenL (.t 58)⟩,
  ⟨some 60, none, .call false 58 [(.t 56), (.t 59)]⟩,
  ⟨some 61, none, .indexAddr 12 (.t 55) (.t 60)⟩,
  ⟨some 62, none, .fieldAddr 0 (.t 61)⟩,
  ⟨some 63, none, .load false false 1 (.t 62)⟩,
  ⟨some 64, none, .build [.int .i64 0, .str [], .str [], .bool false, .str [], .str [], .int .i64 0, .nilslice] [(0, 1, (.c (.int .i64 2))), (1, 1, (.t 53)), (2, 1, (.t 63))]⟩,
  ⟨none, none, .store 8 (.t 6) (.t 64)⟩] = true := ⟨by kernel_rfl, by kernel_rfl⟩
def gantkeep4_stmt_r14 : List LOper := [
  ⟨some 66, none, .bin .eql (.t 26) (.c (.int .i64 3))⟩,
  ⟨some 65, none, .mv false (.t 66)⟩]
def gantkeep4_stmt_r15 : List LOper := [
  ⟨some 67, none, .mv false (.t 7)⟩,
  ⟨some 68, none, .build [.int .i64 0, .str [], .str [], .bool false, .str [], .str [], .int .i64 0, .nilslice] [(0, 1, (.c (.int .i64 4))), (1, 1, (.t 67))]⟩,
  ⟨none, none, .store 8 (.t 6) (.t 68)⟩]
def gantkeep4_stmt_r16 : List LOper := [
  ⟨some 70, none, .bin .eql (.t 26) (.c (.int .i64 4))⟩,
  ⟨some 69, none, .mv false (.t 70)⟩]
def gantkeep4_stmt_r17 : List LOper := [
  ⟨some 71, none, .mv false (.t 1)⟩,
  ⟨some 72, none, .call false 58 [(.t 71), (.c (.int .i64 2))]⟩,
  ⟨some 73, none, .bin .eql (.t 72) (.c (.int .i64 0))⟩]
def gantkeep4_stmt_r18 : List LOper := [
  ⟨some 74, none, .mv false (.t 1)⟩,
  ⟨some 75, none, .call false 58 [(.t 74), (.c (.int .i64 3))]⟩,
  ⟨some 76, none, .bin .add (.c (.int .i64 1)) (.t 75)⟩,
  ⟨some 77, none, .build [.int .i64 0, .str [], .str [], .bool false, .str [], .str [], .int .i64 0, .nilslice] [(0, 1, (.c (.int .i64 5))), (6, 1, (.t 76))]⟩,
  ⟨none, none, .store 8 (.t 6) (.t 77)⟩]
def gantkeep4_stmt_r19 : List LOper := [
  ⟨some 78, none, .fieldAddr 0 (.t 3)⟩,
  ⟨some 79, none, .load false false 1 (.t 78)⟩,
  ⟨some 80, none, .mv false (.t 1)⟩,
  ⟨some 81, none, .fieldAddr 0 (.t 3)⟩,
  ⟨some 82, none, .load false false 1 (.t 81)⟩,
  ⟨some 83, none, .lenL (.t 82)⟩,
  ⟨some 84, none, .call false 58 [(.t 80), (.t 83)]⟩,
  ⟨some 85, none, .indexAddr 12 (.t 79) (.t 84)⟩,
  ⟨some 86, none, .fieldAddr 0 (.t 85)⟩,
  ⟨some 87, none, .load false false 1 (.t 86)⟩,
  ⟨some 88, none, .build [.int .i64 0, .str [], .str [], .bool false, .str [], .str [], .int .i64 0, .nilslice] [(0, 1, (.c (.int .i64 3))), (1, 1, (.t 87))]⟩,
  ⟨none, none, .store 8 (.t 6) (.t 88)⟩]
theorem gantkeep4_stmt_r19_d : drawC [0, 1, 0, 0, 8, 24, 60, 127, 255, 511, 1023, 2047] [
  ⟨some 78, none, .fieldAddr 0 (.t 3)⟩,
  ⟨some 79, none, .load false false 1 (.t 78)⟩,
  ⟨some 80, none, .mv false (.t 1)⟩,
  ⟨some 81, none, .fieldAddr 0 (.t 3)⟩,
  ⟨some 82, none, .load false false 1 (.t 81)⟩,
  ⟨some 83, none, .lenL (.t 82)⟩,
  ⟨some 84, none, .call false 58 [(.t 80), (.t 83)]⟩,
  ⟨some 85, none, .indexAddr 12 (.t 79) (.t 84)⟩,
  ⟨some 86, none, .fieldAddr 0 (.t 85)⟩,
  ⟨some 87, none, .load false false 1 (.t 86)⟩,
  ⟨some 88, none, .build [.int .i64 0, .str [], .str [], .bool false, .str [], .str [], .int .i64 0, .nilslice] [(0, 1, (.c (.int .i64 3))), (1, 1, (.t 87))]⟩,
  ⟨none, none, .store 8 (.t 6) (.t 88)⟩] = false ∧ drawW [0, 1, 0, 0, 8, 24, 60, 127, 255, 511, 1023, 2047] [
  ⟨some 78, none, .fieldAddr 0 (.t 3)⟩,
  ⟨some 79, none, .load false false 1 (.t 78)⟩,
  ⟨some 80, none, .mv false (.t 1)⟩,
  ⟨some 81, none, .fieldAddr 0 (.t 3)⟩,
  ⟨some 82, none, .load false false 1 (.t 81)⟩,
  ⟨some 83, none, .lenL (.t 82)⟩,
  ⟨some 84, none, .call false 58 [(.t 80), (.t 83)]⟩,
  ⟨some 85, none, .indexAddr 12 (.t 79) (.t 84)⟩,
  ⟨some 86, none, .fieldAddr 0 (.t 85)⟩,
  ⟨some 87, none, .load false false 1 (.t 86)⟩,
  ⟨some 88, none, .build [.int .i64 0, .str [], .str [], .bool false, .str [], .str [], .int .i64 0, .nilslice] [(0, 1, (.c (.int .i64 3))), (1, 1, (.t 87))]⟩,
  ⟨none, none, .store 8 (.t 6) (.t 88)⟩] = true := ⟨by kernel_rfl, by kernel_rfl⟩
def gantkeep4_stmt_r20 : List LOper := [
  ⟨some 90, none, .bin .eql (.t 26) (.c (.int .i64 5))⟩,
  ⟨some 89, none, .mv false (.t 90)⟩]
def gantkeep4_stmt_r21 : List LOper := [
  ⟨some 91, none, .load false true 8 (.t 3)⟩,
  ⟨some 92, none, .mv false (.t 1)⟩,
  ⟨some 93, none, .mv false (.t 2)⟩,
  ⟨some 94, none, .bin .add (.t 93) (.c (.int .i64 1))⟩,
  ⟨some 95, none, .call false 95 [(.t 91), (.t 92), (.t 94)]⟩,
  ⟨some 96, none, .load false true 8 (.t 3)⟩,
  ⟨some 97, none, .mv false (.t 1)⟩,
  ⟨some 98, none, .mv false (.t 2)⟩,
  ⟨some 99, none, .bin .add (.t 98) (.c (.int .i64 1))⟩,
  ⟨some 100, none, .call false 95 [(.t 96), (.t 97), (.t 99)]⟩,
  ⟨some 101, none, .bslice false 2 1 [.nilslice, .nilslice] [(0, 1, (.t 95)), (1, 1, (.t 100))]⟩,
  ⟨some 102, none, .build [.int .i64 0, .str [], .str [], .bool false, .str [], .str [], .int .i64 0, .nilslice] [(0, 1, (.c (.int .i64 8))), (7, 1, (.t 101))]⟩,
  ⟨none, none, .store 8 (.t 6) (.t 102)⟩]
theorem gantkeep4_stmt_r21_d : drawC [0, 0, 0, 4, 15, 0, 0, 0, 128, 511, 1023, 2047, 4095] [
  ⟨some 91, none, .load false true 8 (.t 3)⟩,
  ⟨some 92, none, .mv false (.t 1)⟩,
  ⟨some 93, none, .mv false (.t 2)⟩,
  ⟨some 94, none, .bin .add (.t 93) (.c (.int .i64 1))⟩,
  ⟨some 95, none, .call false 95 [(.t 91), (.t 92), (.t 94)]⟩,
  ⟨some 96, none, .load false true 8 (.t 3)⟩,
  ⟨some 97, none, .mv false (.t 1)⟩,
  ⟨some 98, none, .mv false (.t 2)⟩,
  ⟨some 99, none, .bin .add (.t 98) (.c (.int .i64 1))⟩,
  ⟨some 100, none, .call false 95 [(.t 96), (.t 97), (.t 99)]⟩,
  ⟨some 101, none, .bslice false 2 1 [.nilslice, .nilslice] [(0, 1, (.t 95)), (1, 1, (.t 100))]⟩,
  ⟨some 102, none, .build [.int .i64 0, .str [], .str [], .bool false, .str [], .str [], .int .i64 0, .nilslice] [(0, 1, (.c (.int .i64 8))), (7, 1, (.t 101))]⟩,
  ⟨none, none, .store 8 (.t 6) (.t 102)⟩] = false ∧ drawW [0, 0, 0, 4, 15, 0, 0, 0, 128, 511, 1023, 2047, 4095] [
  ⟨some 91, none, .load false true 8 (.t 3)⟩,
  ⟨some 92, none, .mv false (.t 1)⟩,
  ⟨some 93, none, .mv false (.t 2)⟩,
  ⟨some 94, none, .bin .add (.t 93) (.c (.int .i64 1))⟩,
  ⟨some 95, none, .call false 95 [(.t 91), (.t 92), (.t 94)]⟩,
  ⟨some 96, none, .load false true 8 (.t 3)⟩,
  ⟨some 97, none, .mv false (.t 1)⟩,
  ⟨some 98, none, .mv false (.t 2)⟩,
  ⟨some 99, none, .bin .add (.t 98) (.c (.int .i64 1))⟩,
  ⟨some 100, none, .call false 95 [(.t 96), (.t 97), (.t 99)]⟩,
  ⟨some 101, none, .bslice false 2 1 [.nilslice, .nilslice] [(0, 1, (.t 95)), (1, 1, (.t 100))]⟩,
  ⟨some 102, none, .build [.int .i64 0, .str [], .str [], .bool false, .str [], .str [], .int .i64 0, .nilslice] [(0, 1, (.c (.int .i64 8))), (7, 1, (.t 101))]⟩,
  ⟨none, none, .store 8 (.t 6) (.t 102)⟩] = true := ⟨by kernel_rfl, by kernel_rfl⟩
def gantkeep4_stmt_r22 : List LOper := [
  ⟨some 104, none, .bin .eql (.t 26) (.c (.int .i64 6))⟩,
  ⟨some 103, none, .mv false (.t 104)⟩]
def gantkeep4_stmt_r23 : List LOper := [
  ⟨some 105, none, .load false true 8 (.t 3)⟩,
  ⟨some 106, none, .mv false (.t 1)⟩,
  ⟨some 107, none, .mv false (.t 2)⟩,
  ⟨some 108, none, .bin .add (.t 107) (.c (.int .i64 1))⟩,
  ⟨some 109, none, .call false 95 [(.t 105), (.t 106), (.t 108)]⟩,
  ⟨some 110, none, .load false true 8 (.t 3)⟩,
  ⟨some 111, none, .mv false (.t 1)⟩,
  ⟨some 112, none, .mv false (.t 2)⟩,
  ⟨some 113, none, .bin .add (.t 112) (.c (.int .i64 1))⟩,
  ⟨some 114, none, .call false 95 [(.t 110), (.t 111), (.t 113)]⟩,
  ⟨some 115, none, .bslice false 2 1 [.nilslice, .nilslice] [(0, 1, (.t 109)), (1, 1, (.t 114))]⟩,
  ⟨some 116, none, .build [.int .i64 0, .str [], .str [], .bool false, .str [], .str [], .int .i64 0, .nilslice] [(0, 1, (.c (.int .i64 9))), (7, 1, (.t 115))]⟩,
  ⟨none, none, .store 8 (.t 6) (.t 116)⟩]
theorem gantkeep4_stmt_r23_d : drawC [0, 0, 0, 4, 15, 0, 0, 0, 128, 511, 1023, 2047, 4095] [
  ⟨some 105, none, .load false true 8 (.t 3)⟩,
  ⟨some 106, none, .mv false (.t 1)⟩,
  ⟨some 107, none, .mv false (.t 2)⟩,
  ⟨some 108, none, .bin .add (.t 107) (.c (.int .i64 1))⟩,
  ⟨some 109, none, .call false 95 [(.t 105), (.t 106), (.t 108)]⟩,
  ⟨some 110, none, .load false true 8 (.t 3)⟩,
  ⟨some 111, none, .mv false (.t 1)⟩,
  ⟨some 112, none, .mv false (.t 2)⟩,
  ⟨some 113, none, .bin .add (.t 112) (.c (.int .i64 1))⟩,
  ⟨some 114, none, .call false 95 [(.t 110), (.t 111), (.t 113)]⟩,
  ⟨some 115, none, .bslice false 2 1 [.nilslice, .nilslice] [(0, 1, (.t 109)), (1, 1, (.t 114))]⟩,
  ⟨some 116, none, .build [.int .i64 0, .str [], .str [], .bool false, .str [], .str [], .int .i64 0, .nilslice] [(0, 1, (.c (.int .i64 9))), (7, 1, (.t 115))]⟩,
  ⟨none, none, .store 8 (.t 6) (.t 116)⟩] = false ∧ drawW [0, 0, 0, 4, 15, 0, 0, 0, 128, 511, 1023, 2047, 4095] [
  ⟨some 105, none, .load false true 8 (.t 3)⟩,
  ⟨some 106, none, .mv false (.t 1)⟩,
  ⟨some 107, none, .mv false (.t 2)⟩,
  ⟨some 108, none, .bin .add (.t 107) (.c (.int .i64 1))⟩,
  ⟨some 109, none, .call false 95 [(.t 105), (.t 106), (.t 108)]⟩,
  ⟨some 110, none, .load false true 8 (.t 3)⟩,
  ⟨some 111, none, .mv false (.t 1)⟩,
  ⟨some 112, none, .mv false (.t 2)⟩,
  ⟨some 113, none, .bin .add (.t 112) (.c (.int .i64 1))⟩,
  ⟨some 114, none, .call false 95 [(.t 110), (.t 111), (.t 113)]⟩,
  ⟨some 115, none, .bslice false 2 1 [.nilslice, .nilslice] [(0, 1, (.t 109)), (1, 1, (.t 114))]⟩,
  ⟨some 116, none, .build [.int .i64 0, .str [], .str [], .bool false, .str [], .str [], .int .i64 0, .nilslice] [(0, 1, (.c (.int .i64 9))), (7, 1, (.t 115))]⟩,
  ⟨none, none, .store 8 (.t 6) (.t 116)⟩] = true := ⟨by kernel_rfl, by kernel_rfl⟩
def gantkeep4_stmt_r24 : List LOper := [
  ⟨some 117, none, .mv false (.t 1)⟩,
  ⟨some 118, none, .call false 58 [(.t 117), (.c (.int .i64 2))]⟩,
  ⟨some 119, none, .bin .eql (.t 118) (.c (.int .i64 0))⟩]
def gantkeep4_stmt_r25 : List LOper := [
  ⟨some 120, none, .load false true 8 (.t 3)⟩,
  ⟨some 121, none, .mv false (.t 1)⟩,
  ⟨some 122, none, .mv false (.t 2)⟩,
  ⟨some 123, none, .bin .add (.t 122) (.c (.int .i64 1))⟩,
  ⟨some 124, none, .call false 95 [(.t 120), (.t 121), (.t 123)]⟩,
  ⟨some 125, none, .bslice false 1 1 [.nilslice] [(0, 1, (.t 124))]⟩,
  ⟨some 126, none, .build [.int .i64 0, .str [], .str [], .bool false, .str [], .str [], .int .i64 0, .nilslice] [(0, 1, (.c (.int .i64 6))), (7, 1, (.t 125))]⟩,
  ⟨none, none, .store 8 (.t 6) (.t 126)⟩]
def gantkeep4_stmt_r26 : List LOper := [
  ⟨some 127, none, .mv false (.t 1)⟩,
  ⟨some 128, none, .call false 58 [(.t 127), (.c (.int .i64 2))]⟩,
  ⟨some 129, none, .bin .add (.c (.int .i64 1)) (.t 128)⟩,
  ⟨some 130, none, .load false true 8 (.t 3)⟩,
  ⟨some 131, none, .mv false (.t 1)⟩,
  ⟨some 132, none, .mv false (.t 2)⟩,
  ⟨some 133, none, .bin .add (.t 132) (.c (.int .i64 1))⟩,
  ⟨some 134, none, .call false 95 [(.t 130), (.t 131), (.t 133)]⟩,
  ⟨some 135, none, .bslice false 1 1 [.nilslice] [(0, 1, (.t 134))]⟩,
  ⟨some 136, none, .build [.int .i64 0, .str [], .str [], .bool false, .str [], .str [], .int .i64 0, .nilslice] [(0, 1, (.c (.int .i64 7))), (6, 1, (.t 129)), (7, 1, (.t 135))]⟩,
  ⟨none, none, .store 8 (.t 6) (.t 136)⟩]
theorem gantkeep4_stmt_r26_d : drawC [0, 1, 3, 0, 0, 0, 32, 123, 251, 511, 1023] [
  ⟨some 127, none, .mv false (.t 1)⟩,
  ⟨some 128, none, .call false 58 [(.t 127), (.c (.int .i64 2))]⟩,
  ⟨some 129, none, .bin .add (.c (.int .i64 1)) (.t 128)⟩,
  ⟨some 130, none, .load false true 8 (.t 3)⟩,
  ⟨some 131, none, .mv false (.t 1)⟩,
  ⟨some 132, none, .mv false (.t 2)⟩,
  ⟨some 133, none, .bin .add (.t 132) (.c (.int .i64 1))⟩,
  ⟨some 134, none, .call false 95 [(.t 130), (.t 131), (.t 133)]⟩,
  ⟨some 135, none, .bslice false 1 1 [.nilslice] [(0, 1, (.t 134))]⟩,
  ⟨some 136, none, .build [.int .i64 0, .str [], .str [], .bool false, .str [], .str [], .int .i64 0, .nilslice] [(0, 1, (.c (.int .i64 7))), (6, 1, (.t 129)), (7, 1, (.t 135))]⟩,
  ⟨none, none, .store 8 (.t 6) (.t 136)⟩] = false ∧ drawW [0, 1, 3, 0, 0, 0, 32, 123, 251, 511, 1023] [
  ⟨some 127, none, .mv false (.t 1)⟩,
  ⟨some 128, none, .call false 58 [(.t 127), (.c (.int .i64 2))]⟩,
  ⟨some 129, none, .bin .add (.c (.int .i64 1)) (.t 128)⟩,
  ⟨some 130, none, .load false true 8 (.t 3)⟩,
  ⟨some 131, none, .mv false (.t 1)⟩,
  ⟨some 132, none, .mv false (.t 2)⟩,
  ⟨some 133, none, .bin .add (.t 132) (.c (.int .i64 1))⟩,
  ⟨some 134, none, .call false 95 [(.t 130), (.t 131), (.t 133)]⟩,
  ⟨some 135, none, .bslice false 1 1 [.nilslice] [(0, 1, (.t 134))]⟩,
  ⟨some 136, none, .build [.int .i64 0, .str [], .str [], .bool false, .str [], .str [], .int .i64 0, .nilslice] [(0, 1, (.c (.int .i64 7))), (6, 1, (.t 129)), (7, 1, (.t 135))]⟩,
  ⟨none, none, .store 8 (.t 6) (.t 136)⟩] = true := ⟨by kernel_rfl, by kernel_rfl⟩
def gantkeep4_stmt_f : LFunc := ⟨137, 3, [.cell 6 true 8], (.seq (.ops gantkeep4_stmt_r0) (.seq (.dops [0, 1, 0, 0, 8, 24, 60, 127, 255, 511, 1023] gantkeep4_stmt_r1) (.seq (.ops gantkeep4_stmt_r2) (.seq (.seq (.ops gantkeep4_stmt_r3) (.cond (.t 23) (.ops gantkeep4_stmt_r4) .skip)) (.seq (.seq (.ops gantkeep4_stmt_r5) (.block 0 (.seq (.seq (.ops gantkeep4_stmt_r6) (.cond (.t 27) .skip (.ops gantkeep4_stmt_r7))) (.cond (.t 27) (.seq (.dops [0, 0, 2, 0, 0, 16, 48, 120, 254, 510, 1022, 2047, 0, 8191] gantkeep4_stmt_r8) (.seq (.seq (.ops gantkeep4_stmt_r9) (.cond (.t 44) (.ops gantkeep4_stmt_r10) .skip)) (.seq (.ops gantkeep4_stmt_r11) .ret))) (.seq (.ops gantkeep4_stmt_r12) (.cond (.t 51) (.seq (.dops [0, 0, 2, 0, 0, 16, 48, 120, 254, 510, 1022, 2047, 4095] gantkeep4_stmt_r13) .ret) (.seq (.ops gantkeep4_stmt_r14) (.cond (.t 65) (.seq (.ops gantkeep4_stmt_r15) .ret) (.seq (.ops gantkeep4_stmt_r16) (.cond (.t 69) (.seq (.seq (.ops gantkeep4_stmt_r17) (.cond (.t 73) (.seq (.ops gantkeep4_stmt_r18) .ret) .skip)) (.seq (.dops [0, 1, 0, 0, 8, 24, 60, 127, 255, 511, 1023, 2047] gantkeep4_stmt_r19) .ret)) (.seq (.ops gantkeep4_stmt_r20) (.cond (.t 89) (.seq (.dops [0, 0, 0, 4, 15, 0, 0, 0, 128, 511, 1023, 2047, 4095] gantkeep4_stmt_r21) .ret) (.seq (.ops gantkeep4_stmt_r22) (.cond (.t 103) (.seq (.dops [0, 0, 0, 4, 15, 0, 0, 0, 128, 511, 1023, 2047, 4095] gantkeep4_stmt_r23) .ret) .skip)))))))))))))) (.seq (.seq (.ops gantkeep4_stmt_r24) (.cond (.t 119) (.seq (.ops gantkeep4_stmt_r25) .ret) .skip)) (.seq (.dops [0, 1, 3, 0, 0, 0, 32, 123, 251, 511, 1023] gantkeep4_stmt_r26) .ret)))))))⟩
def gantkeep4_stmt_v : VFunc := ⟨gantkeep4_stmt_f, false, false, false⟩
theorem gantkeep4_stmt_ok : preFunc Tryd.prog ⟨[], [], []⟩ Tryd.f136 [] = some gantkeep4_stmt_f := by kernel_rfl

-- gantry/rat.Sign
def rat_Sign_r0 : List LOper := [
  ⟨some 1, none, .box (.t 0)⟩,
  ⟨some 2, none, .mv false (.c (.int .i64 0))⟩]
def rat_Sign_r1 : List LOper := [
  ⟨some 3, none, .load false true 3 (.t 1)⟩,
  ⟨some 4, none, .call false 67 [(.t 3)]⟩,
  ⟨none, none, .store 3 (.t 1) (.t 4)⟩]
def rat_Sign_r2 : List LOper := [
  ⟨some 6, none, .fieldAddr 1 (.t 1)⟩,
  ⟨some 7, none, .load false false 1 (.t 6)⟩,
  ⟨some 8, none, .bin .eql (.t 7) (.c (.str []))⟩,
  ⟨some 5, none, .mv false (.t 8)⟩]
def rat_Sign_r3 : List LOper := [
  ⟨some 2, none, .mv false (.c (.int .i64 0))⟩]
def rat_Sign_r4 : List LOper := [
  ⟨some 10, none, .fieldAddr 0 (.t 1)⟩,
  ⟨some 11, none, .load false false 1 (.t 10)⟩,
  ⟨some 9, none, .mv false (.t 11)⟩]
def rat_Sign_r5 : List LOper := [
  ⟨some 2, none, .mv false (.c (.int .i64 (-1)))⟩]
def rat_Sign_r6 : List LOper := [
  ⟨some 2, none, .mv false (.c (.int .i64 1))⟩]
def rat_Sign_f : LFunc := ⟨12, 1, [.tmp 2], (.seq (.ops rat_Sign_r0) (.seq (.seq (.ops rat_Sign_r1) (.block 0 (.seq (.ops rat_Sign_r2) (.cond (.t 5) (.seq (.ops rat_Sign_r3) .ret) (.seq (.ops rat_Sign_r4) (.cond (.t 9) (.seq (.ops rat_Sign_r5) .ret) .skip)))))) (.seq (.ops rat_Sign_r6) .ret)))⟩
def rat_Sign_v : VFunc := ⟨rat_Sign_f, true, false, false⟩
theorem rat_Sign_ok : preFunc Tryd.prog ⟨[], [], []⟩ Tryd.f144 [] = some rat_Sign_f := by kernel_rfl

-- gantry/parse.stmt
def parse_stmt_r0 : List LOper := [
  ⟨some 2, none, .box (.t 0)⟩,
  ⟨some 4, none, .mv false (.c (.int .i64 0))⟩,
  ⟨some 5, none, .mv false (.c (.int .i64 0))⟩]
def parse_stmt_r1 : List LOper := [
  ⟨some 12, none, .fieldAddr 0 (.t 2)⟩,
  ⟨some 13, none, .load false false 1 (.t 12)⟩,
  ⟨some 14, none, .bin .lss (.t 13) (.c (.int .i64 1))⟩,
  ⟨some 15, none, .mv false (.t 14)⟩,
  ⟨some 16, some (15, false), .fieldAddr 0 (.t 2)⟩,
  ⟨some 17, some (15, false), .load false false 1 (.t 16)⟩,
  ⟨some 18, some (15, false), .bin .gtr (.t 17) (.c (.int .i64 9))⟩,
  ⟨some 19, none, .pick (.t 15) (.c (.bool true)) (.t 18)⟩]
def parse_stmt_r2 : List LOper := [
  ⟨some 4, none, .mv false (.c (.int .i64 0))⟩,
  ⟨some 5, none, .mv false (.c (.int .i64 3))⟩]
def parse_stmt_r3 : List LOper := [
  ⟨some 20, none, .fieldAddr 0 (.t 2)⟩,
  ⟨some 21, none, .load false false 1 (.t 20)⟩,
  ⟨some 22, none, .bin .lss (.t 21) (.c (.int .i64 6))⟩]
def parse_stmt_r4 : List LOper := [
  ⟨some 23, none, .load false true 8 (.t 2)⟩,
  ⟨some 24, none, .call false 156 [(.t 23)]⟩,
  ⟨some 4, none, .mv false (.c (.int .i64 1))⟩,
  ⟨some 5, none, .mv false (.t 24)⟩]
def parse_stmt_r5 : List LOper := [
  ⟨some 25, none, .load false true 8 (.t 2)⟩,
  ⟨some 26, none, .call false 157 [(.t 25)]⟩,
  ⟨some 6, none, .mv false (.t 26)⟩]
def parse_stmt_r6 : List LOper := [
  ⟨some 27, none, .mv false (.t 6)⟩,
  ⟨some 28, none, .bin .neq (.t 27) (.c (.int .i64 0))⟩]
def parse_stmt_r7 : List LOper := [
  ⟨some 29, none, .mv false (.t 6)⟩,
  ⟨some 4, none, .mv false (.c (.int .i64 0))⟩,
  ⟨some 5, none, .mv false (.t 29)⟩]
def parse_stmt_r8 : List LOper := [
  ⟨some 7, none, .mv false (.c (.int .i64 1))⟩]
def parse_stmt_r9 : List LOper := [
  ⟨some 30, none, .fieldAddr 7 (.t 2)⟩,
  ⟨some 31, none, .load false false 1 (.t 30)⟩,
  ⟨some 32, none, .lenL (.t 31)⟩,
  ⟨some 33, none, .mv false (.c (.int .i64 0))⟩]
def parse_stmt_r10 : List LOper := [
  ⟨some 34, none, .bin .lss (.t 33) (.t 32)⟩]
def parse_stmt_r11 : List LOper := [
  ⟨some 35, none, .indexAddr 1 (.t 31) (.t 33)⟩,
  ⟨some 36, none, .load false false 1 (.t 35)⟩,
  ⟨some 9, none, .mv false (.t 36)⟩]
def parse_stmt_r12 : List LOper := [
  ⟨some 38, none, .mv false (.t 9)⟩,
  ⟨some 39, none, .mv false (.t 1)⟩,
  ⟨some 40, none, .bin .add (.t 39) (.c (.int .i64 1))⟩,
  ⟨some 41, none, .call false 108 [(.t 38), (.t 40)]⟩,
  ⟨some 37, none, .mv false (.t 41)⟩,
  ⟨some 42, none, .extract 0 (.t 37)⟩,
  ⟨some 43, none, .extract 1 (.t 37)⟩,
  ⟨some 10, none, .mv false (.t 42)⟩,
  ⟨some 11, none, .mv false (.t 43)⟩]
def parse_stmt_r13 : List LOper := [
  ⟨some 44, none, .mv false (.t 11)⟩,
  ⟨some 45, none, .bin .neq (.t 44) (.c (.int .i64 0))⟩]
def parse_stmt_r14 : List LOper := [
  ⟨some 46, none, .mv false (.t 11)⟩,
  ⟨some 4, none, .mv false (.c (.int .i64 0))⟩,
  ⟨some 5, none, .mv false (.t 46)⟩]
def parse_stmt_r15 : List LOper := [
  ⟨some 47, none, .mv false (.t 7)⟩,
  ⟨some 48, none, .mv false (.t 10)⟩,
  ⟨some 49, none, .fieldAddr 6 (.t 2)⟩,
  ⟨some 50, none, .load false false 1 (.t 49)⟩,
  ⟨some 51, none, .max2 [(.t 50), (.c (.int .i64 1))]⟩,
  ⟨some 52, none, .bin .mul (.t 48) (.t 51)⟩,
  ⟨some 53, none, .bin .add (.t 47) (.t 52)⟩,
  ⟨some 7, none, .mv false (.t 53)⟩]
def parse_stmt_r16 : List LOper := [
  ⟨some 54, none, .mv false (.t 7)⟩,
  ⟨some 55, none, .bin .gtr (.t 54) (.c (.int .i64 100))⟩]
def parse_stmt_r17 : List LOper := [
  ⟨some 4, none, .mv false (.c (.int .i64 0))⟩,
  ⟨some 5, none, .mv false (.c (.int .i64 2))⟩]
def parse_stmt_r18 : List LOper := [
  ⟨some 56, none, .bin .add (.t 33) (.c (.int .i64 1))⟩,
  ⟨some 33, none, .mv false (.t 56)⟩]
def parse_stmt_b0 : LCode := (.seq (.ops parse_stmt_r10) (.seq (.cond (.t 34) .skip (.exit 0)) (.seq (.block 1 (.seq (.ops parse_stmt_r11) (.seq (.ops parse_stmt_r12) (.seq (.seq (.ops parse_stmt_r13) (.cond (.t 45) (.seq (.ops parse_stmt_r14) .ret) .skip)) (.seq (.ops parse_stmt_r15) (.seq (.ops parse_stmt_r16) (.cond (.t 55) (.seq (.ops parse_stmt_r17) .ret) .skip))))))) (.ops parse_stmt_r18))))
def parse_stmt_r19 : List LOper := [
  ⟨some 57, none, .mv false (.t 7)⟩,
  ⟨some 4, none, .mv false (.t 57)⟩,
  ⟨some 5, none, .mv false (.c (.int .i64 0))⟩]
def parse_stmt_f : LFunc := ⟨58, 2, [.tmp 4, .tmp 5], (.seq (.ops parse_stmt_r0) (.seq (.seq (.ops parse_stmt_r1) (.cond (.t 19) (.seq (.ops parse_stmt_r2) .ret) .skip)) (.seq (.seq (.ops parse_stmt_r3) (.cond (.t 22) (.seq (.ops parse_stmt_r4) .ret) .skip)) (.seq (.seq (.ops parse_stmt_r5) (.seq (.ops parse_stmt_r6) (.cond (.t 28) (.seq (.ops parse_stmt_r7) .ret) .skip))) (.seq (.ops parse_stmt_r8) (.seq (.seq (.ops parse_stmt_r9) (.block 0 (.loop [1, 2, 7, 31, 32, 33] parse_stmt_b0))) (.seq (.ops parse_stmt_r19) .ret)))))))⟩
def parse_stmt_v : VFunc := ⟨parse_stmt_f, true, false, false⟩
theorem parse_stmt_ok : preFunc Tryd.prog ⟨[], [], []⟩ Tryd.f145 [[1, 2, 7, 31, 32, 33]] = some parse_stmt_f := by kernel_rfl

-- (*gantry/parse.printer).put
def parse_printer_put_r0 : List LOper := [
  ⟨some 4, none, .mv false (.t 0)⟩,
  ⟨some 5, none, .mv false (.t 0)⟩,
  ⟨some 6, none, .nilchk (.t 5)⟩,
  ⟨some 7, none, .fieldAddr 0 (.t 6)⟩,
  ⟨some 8, none, .load true false 1 (.t 7)⟩,
  ⟨some 9, none, .mv false (.t 1)⟩,
  ⟨some 10, none, .append true 1 16 (.t 8) (.t 9)⟩,
  ⟨some 11, none, .nilchk (.t 4)⟩,
  ⟨some 12, none, .fieldAddr 0 (.t 11)⟩,
  ⟨none, none, .store 1 (.t 12) (.t 10)⟩]
def parse_printer_put_f : LFunc := ⟨13, 2, [], (.ops parse_printer_put_r0)⟩
def parse_printer_put_v : VFunc := ⟨parse_printer_put_f, false, false, false⟩
theorem parse_printer_put_ok : preFunc Tryd.prog ⟨[8], [], []⟩ Tryd.f146 [] = some parse_printer_put_f := by kernel_rfl

-- (*gantry/parse.printer).block
def parse_printer_block_r0 : List LOper := [
  ⟨some 6, none, .mv false (.t 0)⟩,
  ⟨some 7, none, .bslice false 1 1 [.str []] [(0, 1, (.c (.str [123])))]⟩,
  ⟨some 8, none, .call false 146 [(.t 6), (.t 7)]⟩]
def parse_printer_block_r1 : List LOper := [
  ⟨some 9, none, .mv false (.t 1)⟩,
  ⟨some 10, none, .lenL (.t 9)⟩,
  ⟨some 11, none, .mv false (.c (.int .i64 0))⟩]
def parse_printer_block_r2 : List LOper := [
  ⟨some 12, none, .bin .lss (.t 11) (.t 10)⟩]
def parse_printer_block_r3 : List LOper := [
  ⟨some 13, none, .indexAddr 8 (.t 9) (.t 11)⟩,
  ⟨some 14, none, .load false true 8 (.t 13)⟩,
  ⟨some 5, none, .alloc [.int .i64 0, .str [], .str [], .bool false, .str [], .str [], .int .i64 0, .nilslice]⟩,
  ⟨none, none, .store 8 (.t 5) (.t 14)⟩]
def parse_printer_block_r4 : List LOper := [
  ⟨some 15, none, .mv false (.t 0)⟩,
  ⟨some 16, none, .load false true 8 (.t 5)⟩,
  ⟨some 17, none, .call false 158 [(.t 15), (.t 16)]⟩]
def parse_printer_block_r5 : List LOper := [
  ⟨some 18, none, .bin .add (.t 11) (.c (.int .i64 1))⟩,
  ⟨some 11, none, .mv false (.t 18)⟩]
def parse_printer_block_b0 : LCode := (.seq (.ops parse_printer_block_r2) (.seq (.cond (.t 12) .skip (.exit 0)) (.seq (.block 1 (.seq (.ops parse_printer_block_r3) (.ops parse_printer_block_r4))) (.ops parse_printer_block_r5))))
def parse_printer_block_r6 : List LOper := [
  ⟨some 19, none, .mv false (.t 0)⟩,
  ⟨some 20, none, .bslice false 1 1 [.str []] [(0, 1, (.c (.str [125])))]⟩,
  ⟨some 21, none, .call false 146 [(.t 19), (.t 20)]⟩]
def parse_printer_block_f : LFunc := ⟨22, 2, [], (.seq (.ops parse_printer_block_r0) (.seq (.seq (.ops parse_printer_block_r1) (.block 0 (.loop [0, 9, 10, 11] parse_printer_block_b0))) (.ops parse_printer_block_r6)))⟩
def parse_printer_block_v : VFunc := ⟨parse_printer_block_f, false, false, false⟩
theorem parse_printer_block_ok : preFunc Tryd.prog ⟨[], [], []⟩ Tryd.f147 [[0, 9, 10, 11]] = some parse_printer_block_f := by kernel_rfl

-- gantry/nat.common
def nat_common_r0 : List LOper := [
  ⟨some 4, none, .mv false (.c (.int .u64 0))⟩]
def nat_common_r1 : List LOper := [
  ⟨some 5, none, .mv false (.t 1)⟩,
  ⟨some 6, none, .bin .gtr (.t 5) (.c (.int .u64 0))⟩]
def nat_common_r2 : List LOper := [
  ⟨some 7, none, .mv false (.t 1)⟩,
  ⟨some 8, none, .mv false (.t 0)⟩,
  ⟨some 9, none, .mv false (.t 1)⟩,
  ⟨some 10, none, .bin .rem (.t 8) (.t 9)⟩,
  ⟨some 0, none, .mv false (.t 7)⟩,
  ⟨some 1, none, .mv false (.t 10)⟩]
theorem nat_common_r2_d : drawC [0, 0, 0, 6, 3, 31] [
  ⟨some 7, none, .mv false (.t 1)⟩,
  ⟨some 8, none, .mv false (.t 0)⟩,
  ⟨some 9, none, .mv false (.t 1)⟩,
  ⟨some 10, none, .bin .rem (.t 8) (.t 9)⟩,
  ⟨some 0, none, .mv false (.t 7)⟩,
  ⟨some 1, none, .mv false (.t 10)⟩] = true := by kernel_rfl
def nat_common_b0 : LCode := (.seq (.seq (.ops nat_common_r1) (.cond (.t 6) .skip (.exit 0))) (.block 1 (.dops [0, 0, 0, 6, 3, 31] nat_common_r2)))
def nat_common_r3 : List LOper := [
  ⟨some 11, none, .mv false (.t 0)⟩,
  ⟨some 4, none, .mv false (.t 11)⟩]
def nat_common_f : LFunc := ⟨12, 2, [.tmp 4], (.seq (.ops nat_common_r0) (.seq (.block 0 (.loop [0, 1] nat_common_b0)) (.seq (.ops nat_common_r3) .ret)))⟩
def nat_common_v : VFunc := ⟨nat_common_f, true, false, false⟩
theorem nat_common_ok : preFunc Tryd.prog ⟨[], [], []⟩ Tryd.f150 [[0, 1]] = some nat_common_f := by kernel_rfl

-- gantry/word.IsName
def word_IsName_r0 : List LOper := [
  ⟨some 2, none, .mv false (.c (.bool false))⟩]
def word_IsName_r1 : List LOper := [
  ⟨some 4, none, .mv false (.t 0)⟩,
  ⟨some 5, none, .lenS (.t 4)⟩,
  ⟨some 6, none, .bin .eql (.t 5) (.c (.int .i64 0))⟩,
  ⟨some 7, none, .mv false (.t 6)⟩,
  ⟨some 8, some (7, false), .mv false (.t 0)⟩,
  ⟨some 9, some (7, false), .lenS (.t 8)⟩,
  ⟨some 10, some (7, false), .bin .gtr (.t 9) (.c (.int .i64 12))⟩,
  ⟨some 11, none, .pick (.t 7) (.c (.bool true)) (.t 10)⟩]
def word_IsName_r2 : List LOper := [
  ⟨some 2, none, .mv false (.c (.bool false))⟩]
def word_IsName_r3 : List LOper := [
  ⟨some 12, none, .mv false (.t 0)⟩,
  ⟨some 13, none, .lenS (.t 12)⟩,
  ⟨some 14, none, .mv false (.c (.int .i64 0))⟩]
def word_IsName_r4 : List LOper := [
  ⟨some 15, none, .bin .lss (.t 14) (.t 13)⟩]
def word_IsName_r5 : List LOper := [
  ⟨some 16, none, .mv false (.t 14)⟩,
  ⟨some 3, none, .mv false (.t 16)⟩]
def word_IsName_r6 : List LOper := [
  ⟨some 17, none, .mv false (.t 0)⟩,
  ⟨some 18, none, .mv false (.t 3)⟩,
  ⟨some 19, none, .index (.t 17) (.t 18)⟩,
  ⟨some 20, none, .call false 172 [(.t 19)]⟩,
  ⟨some 21, none, .un .not (.t 20)⟩]
def word_IsName_r7 : List LOper := [
  ⟨some 2, none, .mv false (.c (.bool false))⟩]
def word_IsName_r8 : List LOper := [
  ⟨some 22, none, .bin .add (.t 14) (.c (.int .i64 1))⟩,
  ⟨some 14, none, .mv false (.t 22)⟩]
def word_IsName_b0 : LCode := (.seq (.ops word_IsName_r4) (.seq (.cond (.t 15) .skip (.exit 0)) (.seq (.block 1 (.seq (.ops word_IsName_r5) (.seq (.ops word_IsName_r6) (.cond (.t 21) (.seq (.ops word_IsName_r7) .ret) .skip)))) (.ops word_IsName_r8))))
def word_IsName_r9 : List LOper := [
  ⟨some 2, none, .mv false (.c (.bool true))⟩]
def word_IsName_f : LFunc := ⟨23, 1, [.tmp 2], (.seq (.ops word_IsName_r0) (.seq (.seq (.ops word_IsName_r1) (.cond (.t 11) (.seq (.ops word_IsName_r2) .ret) .skip)) (.seq (.seq (.ops word_IsName_r3) (.block 0 (.loop [0, 13, 14] word_IsName_b0))) (.seq (.ops word_IsName_r9) .ret))))⟩
def word_IsName_v : VFunc := ⟨word_IsName_f, true, false, false⟩
theorem word_IsName_ok : preFunc Tryd.prog ⟨[], [], []⟩ Tryd.f154 [[0, 13, 14]] = some word_IsName_f := by kernel_rfl

-- gantry/parse.keyword
def parse_keyword_r0 : List LOper := [
  ⟨some 2, none, .mv false (.c (.bool false))⟩]
def parse_keyword_r1 : List LOper := [
  ⟨some 3, none, .bslice false 15 1 [.str [], .str [], .str [], .str [], .str [], .str [], .str [], .str [], .str [], .str [], .str [], .str [], .str [], .str [], .str []] [(0, 1, (.c (.str [106, 111, 98]))), (1, 1, (.c (.str [112, 117, 116]))), (2, 1, (.c (.str [105, 110]))), (3, 1, (.c (.str [119, 105, 116, 104, 105, 110]))), (4, 1, (.c (.str [104, 111, 108, 100]))), (5, 1, (.c (.str [119, 105, 116, 104]))), (6, 1, (.c (.str [102, 114, 101, 101]))), (7, 1, (.c (.str [115, 101, 101]))), (8, 1, (.c (.str [119, 97, 105, 116]))), (9, 1, (.c (.str [100, 111]))), (10, 1, (.c (.str [114, 101, 112, 101, 97, 116]))), (11, 1, (.c (.str [97, 110, 121]))), (12, 1, (.c (.str [111, 114]))), (13, 1, (.c (.str [116, 114, 121]))), (14, 1, (.c (.str [101, 108, 115, 101])))]⟩,
  ⟨some 4, none, .mv false (.t 0)⟩,
  ⟨some 5, none, .call false 173 [(.t 3), (.t 4)]⟩,
  ⟨some 2, none, .mv false (.t 5)⟩]
def parse_keyword_f : LFunc := ⟨6, 1, [.tmp 2], (.seq (.ops parse_keyword_r0) (.seq (.ops parse_keyword_r1) .ret))⟩
def parse_keyword_v : VFunc := ⟨parse_keyword_f, true, false, false⟩
theorem parse_keyword_ok : preFunc Tryd.prog ⟨[], [], []⟩ Tryd.f155 [] = some parse_keyword_f := by kernel_rfl

-- gantry/parse.plain
def parse_plain_r0 : List LOper := [
  ⟨some 1, none, .box (.t 0)⟩,
  ⟨some 2, none, .mv false (.c (.int .i64 0))⟩]
def parse_plain_r1 : List LOper := [
  ⟨some 5, none, .build [.bool false, .str [], .str []] []⟩,
  ⟨some 3, none, .alloc [.bool false, .str [], .str []]⟩,
  ⟨none, none, .store 3 (.t 3) (.t 5)⟩]
def parse_plain_r2 : List LOper := [
  ⟨some 6, none, .fieldAddr 7 (.t 1)⟩,
  ⟨some 7, none, .load false false 1 (.t 6)⟩,
  ⟨some 8, none, .lenL (.t 7)⟩,
  ⟨some 9, none, .bin .neq (.t 8) (.c (.int .i64 0))⟩,
  ⟨some 10, none, .mv false (.t 9)⟩,
  ⟨some 11, some (10, false), .fieldAddr 0 (.t 1)⟩,
  ⟨some 12, some (10, false), .load false false 1 (.t 11)⟩,
  ⟨some 13, some (10, false), .bin .neq (.t 12) (.c (.int .i64 1))⟩,
  ⟨some 14, some (10, false), .mv false (.t 13)⟩,
  ⟨some 15, some (14, true), .fieldAddr 3 (.t 1)⟩,
  ⟨some 16, some (14, true), .load false true 3 (.t 15)⟩,
  ⟨some 17, some (14, true), .load false true 3 (.t 3)⟩,
  ⟨some 18, some (14, true), .eqv true (.struct [.b, .s, .s]) (.t 16) (.t 17)⟩,
  ⟨some 19, some (10, false), .pick (.t 14) (.t 18) (.c (.bool false))⟩,
  ⟨some 20, none, .pick (.t 10) (.c (.bool true)) (.t 19)⟩,
  ⟨some 21, none, .mv false (.t 20)⟩,
  ⟨some 22, some (21, false), .fieldAddr 0 (.t 1)⟩,
  ⟨some 23, some (21, false), .load false false 1 (.t 22)⟩,
  ⟨some 24, some (21, false), .bin .neq (.t 23) (.c (.int .i64 5))⟩,
  ⟨some 25, some (21, false), .mv false (.t 24)⟩,
  ⟨some 26, some (25, true), .fieldAddr 6 (.t 1)⟩,
  ⟨some 27, some (25, true), .load false false 1 (.t 26)⟩,
  ⟨some 28, some (25, true), .bin .neq (.t 27) (.c (.int .i64 0))⟩,
  ⟨some 29, some (21, false), .pick (.t 25) (.t 28) (.c (.bool false))⟩,
  ⟨some 30, none, .pick (.t 21) (.c (.bool true)) (.t 29)⟩]
def parse_plain_r3 : List LOper := [
  ⟨some 2, none, .mv false (.c (.int .i64 3))⟩]
def parse_plain_r4 : List LOper := [
  ⟨some 31, none, .fieldAddr 0 (.t 1)⟩,
  ⟨some 32, none, .load false false 1 (.t 31)⟩,
  ⟨some 33, none, .bin .eql (.t 32) (.c (.int .i64 1))⟩,
  ⟨some 34, none, .mv false (.t 33)⟩,
  ⟨some 35, some (34, false), .fieldAddr 0 (.t 1)⟩,
  ⟨some 36, some (34, false), .load false false 1 (.t 35)⟩,
  ⟨some 37, some (34, false), .bin .eql (.t 36) (.c (.int .i64 2))⟩,
  ⟨some 38, none, .pick (.t 34) (.c (.bool true)) (.t 37)⟩,
  ⟨some 4, none, .mv false (.t 38)⟩]
def parse_plain_r5 : List LOper := [
  ⟨some 39, none, .fieldAddr 0 (.t 1)⟩,
  ⟨some 40, none, .load false false 1 (.t 39)⟩,
  ⟨some 41, none, .bin .eql (.t 40) (.c (.int .i64 5))⟩,
  ⟨some 42, none, .mv false (.t 41)⟩,
  ⟨some 43, some (42, true), .fieldAddr 1 (.t 1)⟩,
  ⟨some 44, some (42, true), .load false false 1 (.t 43)⟩,
  ⟨some 45, some (42, true), .bin .neq (.t 44) (.c (.str []))⟩,
  ⟨some 46, none, .pick (.t 42) (.t 45) (.c (.bool false))⟩,
  ⟨some 47, none, .mv false (.t 46)⟩,
  ⟨some 48, some (47, false), .fieldAddr 0 (.t 1)⟩,
  ⟨some 49, some (47, false), .load false false 1 (.t 48)⟩,
  ⟨some 50, some (47, false), .bin .neq (.t 49) (.c (.int .i64 5))⟩,
  ⟨some 51, some (47, false), .mv false (.t 50)⟩,
  ⟨some 52, some (51, true), .fieldAddr 1 (.t 1)⟩,
  ⟨some 53, some (51, true), .load false false 1 (.t 52)⟩,
  ⟨some 54, some (51, true), .call false 127 [(.t 53)]⟩,
  ⟨some 55, some (51, true), .un .not (.t 54)⟩,
  ⟨some 56, some (47, false), .pick (.t 51) (.t 55) (.c (.bool false))⟩,
  ⟨some 57, none, .pick (.t 47) (.c (.bool true)) (.t 56)⟩,
  ⟨some 58, none, .mv false (.t 57)⟩,
  ⟨some 59, some (58, false), .mv false (.t 4)⟩,
  ⟨some 60, some (58, false), .mv false (.t 59)⟩,
  ⟨some 61, some (60, true), .fieldAddr 2 (.t 1)⟩,
  ⟨some 62, some (60, true), .load false false 1 (.t 61)⟩,
  ⟨some 63, some (60, true), .call false 127 [(.t 62)]⟩,
  ⟨some 64, some (60, true), .un .not (.t 63)⟩,
  ⟨some 65, some (58, false), .pick (.t 60) (.t 64) (.c (.bool false))⟩,
  ⟨some 66, none, .pick (.t 58) (.c (.bool true)) (.t 65)⟩,
  ⟨some 67, none, .mv false (.t 66)⟩,
  ⟨some 68, some (67, false), .mv false (.t 4)⟩,
  ⟨some 69, some (67, false), .un .not (.t 68)⟩,
  ⟨some 70, some (67, false), .mv false (.t 69)⟩,
  ⟨some 71, some (70, true), .fieldAddr 2 (.t 1)⟩,
  ⟨some 72, some (70, true), .load false false 1 (.t 71)⟩,
  ⟨some 73, some (70, true), .bin .neq (.t 72) (.c (.str []))⟩,
  ⟨some 74, some (67, false), .pick (.t 70) (.t 73) (.c (.bool false))⟩,
  ⟨some 75, none, .pick (.t 67) (.c (.bool true)) (.t 74)⟩]
def parse_plain_r6 : List LOper := [
  ⟨some 2, none, .mv false (.c (.int .i64 3))⟩]
def parse_plain_r7 : List LOper := [
  ⟨some 76, none, .fieldAddr 0 (.t 1)⟩,
  ⟨some 77, none, .load false false 1 (.t 76)⟩,
  ⟨some 78, none, .bin .eql (.t 77) (.c (.int .i64 1))⟩,
  ⟨some 79, none, .mv false (.t 78)⟩,
  ⟨some 80, some (79, true), .fieldAddr 3 (.t 1)⟩,
  ⟨some 81, some (79, true), .load false true 3 (.t 80)⟩,
  ⟨some 82, some (79, true), .load false true 3 (.t 3)⟩,
  ⟨some 83, some (79, true), .eqv true (.struct [.b, .s, .s]) (.t 81) (.t 82)⟩,
  ⟨some 84, none, .pick (.t 79) (.t 83) (.c (.bool false))⟩,
  ⟨some 85, none, .mv false (.t 84)⟩,
  ⟨some 86, some (85, true), .fieldAddr 3 (.t 1)⟩,
  ⟨some 87, some (85, true), .load false true 3 (.t 86)⟩,
  ⟨some 88, some (85, true), .call false 115 [(.t 87)]⟩,
  ⟨some 89, some (85, true), .un .not (.t 88)⟩,
  ⟨some 90, some (85, true), .mv false (.t 89)⟩,
  ⟨some 91, some (90, false), .fieldAddr 3 (.t 1)⟩,
  ⟨some 92, some (90, false), .load false true 3 (.t 91)⟩,
  ⟨some 93, some (90, false), .call false 144 [(.t 92)]⟩,
  ⟨some 94, some (90, false), .bin .leq (.t 93) (.c (.int .i64 0))⟩,
  ⟨some 95, some (85, true), .pick (.t 90) (.c (.bool true)) (.t 94)⟩,
  ⟨some 96, some (85, true), .mv false (.t 95)⟩,
  ⟨some 97, some (96, false), .fieldAddr 3 (.t 1)⟩,
  ⟨some 98, some (96, false), .load false true 3 (.t 97)⟩,
  ⟨some 99, some (96, false), .call false 174 [(.t 98)]⟩,
  ⟨some 100, some (96, false), .un .not (.t 99)⟩,
  ⟨some 101, some (85, true), .pick (.t 96) (.c (.bool true)) (.t 100)⟩,
  ⟨some 102, none, .pick (.t 85) (.t 101) (.c (.bool false))⟩]
def parse_plain_r8 : List LOper := [
  ⟨some 2, none, .mv false (.c (.int .i64 3))⟩]
def parse_plain_r9 : List LOper := [
  ⟨some 103, none, .fieldAddr 0 (.t 1)⟩,
  ⟨some 104, none, .load false false 1 (.t 103)⟩,
  ⟨some 105, none, .bin .eql (.t 104) (.c (.int .i64 5))⟩,
  ⟨some 106, none, .mv false (.t 105)⟩,
  ⟨some 107, some (106, true), .fieldAddr 6 (.t 1)⟩,
  ⟨some 108, some (106, true), .load false false 1 (.t 107)⟩,
  ⟨some 109, some (106, true), .bin .lss (.t 108) (.c (.int .i64 1))⟩,
  ⟨some 110, some (106, true), .mv false (.t 109)⟩,
  ⟨some 111, some (110, false), .fieldAddr 6 (.t 1)⟩,
  ⟨some 112, some (110, false), .load false false 1 (.t 111)⟩,
  ⟨some 113, some (110, false), .bin .gtr (.t 112) (.c (.int .i64 2000))⟩,
  ⟨some 114, some (106, true), .pick (.t 110) (.c (.bool true)) (.t 113)⟩,
  ⟨some 115, none, .pick (.t 106) (.t 114) (.c (.bool false))⟩]
def parse_plain_r10 : List LOper := [
  ⟨some 2, none, .mv false (.c (.int .i64 1))⟩]
def parse_plain_r11 : List LOper := [
  ⟨some 2, none, .mv false (.c (.int .i64 0))⟩]
def parse_plain_f : LFunc := ⟨116, 1, [.tmp 2], (.seq (.ops parse_plain_r0) (.seq (.ops parse_plain_r1) (.seq (.seq (.ops parse_plain_r2) (.cond (.t 30) (.seq (.ops parse_plain_r3) .ret) .skip)) (.seq (.ops parse_plain_r4) (.seq (.seq (.ops parse_plain_r5) (.cond (.t 75) (.seq (.ops parse_plain_r6) .ret) .skip)) (.seq (.seq (.ops parse_plain_r7) (.cond (.t 102) (.seq (.ops parse_plain_r8) .ret) .skip)) (.seq (.seq (.ops parse_plain_r9) (.cond (.t 115) (.seq (.ops parse_plain_r10) .ret) .skip)) (.seq (.ops parse_plain_r11) .ret))))))))⟩
def parse_plain_v : VFunc := ⟨parse_plain_f, true, false, false⟩
theorem parse_plain_ok : preFunc Tryd.prog ⟨[], [], []⟩ Tryd.f156 [] = some parse_plain_f := by kernel_rfl

-- gantry/parse.shape
def parse_shape_r0 : List LOper := [
  ⟨some 1, none, .box (.t 0)⟩,
  ⟨some 2, none, .mv false (.c (.int .i64 0))⟩]
def parse_shape_r1 : List LOper := [
  ⟨some 5, none, .fieldAddr 1 (.t 1)⟩,
  ⟨some 6, none, .load false false 1 (.t 5)⟩,
  ⟨some 7, none, .bin .neq (.t 6) (.c (.str []))⟩,
  ⟨some 8, none, .mv false (.t 7)⟩,
  ⟨some 9, some (8, false), .fieldAddr 2 (.t 1)⟩,
  ⟨some 10, some (8, false), .load false false 1 (.t 9)⟩,
  ⟨some 11, some (8, false), .bin .neq (.t 10) (.c (.str []))⟩,
  ⟨some 12, none, .pick (.t 8) (.c (.bool true)) (.t 11)⟩,
  ⟨some 13, none, .mv false (.t 12)⟩,
  ⟨some 14, some (13, false), .fieldAddr 3 (.t 1)⟩,
  ⟨some 15, some (13, false), .load false true 3 (.t 14)⟩,
  ⟨some 16, some (13, false), .build [.bool false, .str [], .str []] []⟩,
  ⟨some 17, some (13, false), .eqv true (.struct [.b, .s, .s]) (.t 15) (.t 16)⟩,
  ⟨some 18, none, .pick (.t 13) (.c (.bool true)) (.t 17)⟩,
  ⟨some 19, none, .mv false (.t 18)⟩,
  ⟨some 20, some (19, false), .fieldAddr 0 (.t 1)⟩,
  ⟨some 21, some (19, false), .load false false 1 (.t 20)⟩,
  ⟨some 22, some (19, false), .bin .neq (.t 21) (.c (.int .i64 7))⟩,
  ⟨some 23, some (19, false), .mv false (.t 22)⟩,
  ⟨some 24, some (23, true), .fieldAddr 6 (.t 1)⟩,
  ⟨some 25, some (23, true), .load false false 1 (.t 24)⟩,
  ⟨some 26, some (23, true), .bin .neq (.t 25) (.c (.int .i64 0))⟩,
  ⟨some 27, some (19, false), .pick (.t 23) (.t 26) (.c (.bool false))⟩,
  ⟨some 28, none, .pick (.t 19) (.c (.bool true)) (.t 27)⟩]
def parse_shape_r2 : List LOper := [
  ⟨some 2, none, .mv false (.c (.int .i64 3))⟩]
def parse_shape_r3 : List LOper := [
  ⟨some 3, none, .mv false (.c (.int .i64 1))⟩,
  ⟨some 4, none, .mv false (.c (.int .i64 1))⟩]
def parse_shape_r4 : List LOper := [
  ⟨some 29, none, .fieldAddr 0 (.t 1)⟩,
  ⟨some 30, none, .load false false 1 (.t 29)⟩]
def parse_shape_r5 : List LOper := [
  ⟨some 32, none, .bin .eql (.t 30) (.c (.int .i64 8))⟩,
  ⟨some 31, none, .mv false (.t 32)⟩]
def parse_shape_r6 : List LOper := [
  ⟨some 4, none, .mv false (.c (.int .i64 4))⟩]
def parse_shape_r7 : List LOper := [
  ⟨some 34, none, .bin .eql (.t 30) (.c (.int .i64 9))⟩,
  ⟨some 33, none, .mv false (.t 34)⟩]
def parse_shape_r8 : List LOper := [
  ⟨some 3, none, .mv false (.c (.int .i64 2))⟩,
  ⟨some 4, none, .mv false (.c (.int .i64 2))⟩]
def parse_shape_r9 : List LOper := [
  ⟨some 35, none, .fieldAddr 7 (.t 1)⟩,
  ⟨some 36, none, .load false false 1 (.t 35)⟩,
  ⟨some 37, none, .lenL (.t 36)⟩,
  ⟨some 38, none, .mv false (.t 3)⟩,
  ⟨some 39, none, .bin .lss (.t 37) (.t 38)⟩,
  ⟨some 40, none, .mv false (.t 39)⟩,
  ⟨some 41, some (40, false), .fieldAddr 7 (.t 1)⟩,
  ⟨some 42, some (40, false), .load false false 1 (.t 41)⟩,
  ⟨some 43, some (40, false), .lenL (.t 42)⟩,
  ⟨some 44, some (40, false), .mv false (.t 4)⟩,
  ⟨some 45, some (40, false), .bin .gtr (.t 43) (.t 44)⟩,
  ⟨some 46, none, .pick (.t 40) (.c (.bool true)) (.t 45)⟩]
def parse_shape_r10 : List LOper := [
  ⟨some 2, none, .mv false (.c (.int .i64 3))⟩]
def parse_shape_r11 : List LOper := [
  ⟨some 47, none, .fieldAddr 0 (.t 1)⟩,
  ⟨some 48, none, .load false false 1 (.t 47)⟩,
  ⟨some 49, none, .bin .eql (.t 48) (.c (.int .i64 7))⟩,
  ⟨some 50, none, .mv false (.t 49)⟩,
  ⟨some 51, some (50, true), .fieldAddr 6 (.t 1)⟩,
  ⟨some 52, some (50, true), .load false false 1 (.t 51)⟩,
  ⟨some 53, some (50, true), .bin .lss (.t 52) (.c (.int .i64 1))⟩,
  ⟨some 54, some (50, true), .mv false (.t 53)⟩,
  ⟨some 55, some (54, false), .fieldAddr 6 (.t 1)⟩,
  ⟨some 56, some (54, false), .load false false 1 (.t 55)⟩,
  ⟨some 57, some (54, false), .bin .gtr (.t 56) (.c (.int .i64 5))⟩,
  ⟨some 58, some (50, true), .pick (.t 54) (.c (.bool true)) (.t 57)⟩,
  ⟨some 59, none, .pick (.t 50) (.t 58) (.c (.bool false))⟩]
def parse_shape_r12 : List LOper := [
  ⟨some 2, none, .mv false (.c (.int .i64 1))⟩]
def parse_shape_r13 : List LOper := [
  ⟨some 2, none, .mv false (.c (.int .i64 0))⟩]
def parse_shape_f : LFunc := ⟨60, 1, [.tmp 2], (.seq (.ops parse_shape_r0) (.seq (.seq (.ops parse_shape_r1) (.cond (.t 28) (.seq (.ops parse_shape_r2) .ret) .skip)) (.seq (.ops parse_shape_r3) (.seq (.seq (.ops parse_shape_r4) (.block 0 (.seq (.ops parse_shape_r5) (.cond (.t 31) (.ops parse_shape_r6) (.seq (.ops parse_shape_r7) (.cond (.t 33) (.ops parse_shape_r8) .skip)))))) (.seq (.seq (.ops parse_shape_r9) (.cond (.t 46) (.seq (.ops parse_shape_r10) .ret) .skip)) (.seq (.seq (.ops parse_shape_r11) (.cond (.t 59) (.seq (.ops parse_shape_r12) .ret) .skip)) (.seq (.ops parse_shape_r13) .ret)))))))⟩
def parse_shape_v : VFunc := ⟨parse_shape_f, true, false, false⟩
theorem parse_shape_ok : preFunc Tryd.prog ⟨[], [], []⟩ Tryd.f157 [] = some parse_shape_f := by kernel_rfl

-- (*gantry/parse.printer).stmt
def parse_printer_stmt_r0 : List LOper := [
  ⟨some 3, none, .box (.t 1)⟩]
def parse_printer_stmt_r1 : List LOper := [
  ⟨some 6, none, .fieldAddr 0 (.t 3)⟩,
  ⟨some 7, none, .load false false 1 (.t 6)⟩]
def parse_printer_stmt_r2 : List LOper := [
  ⟨some 9, none, .bin .eql (.t 7) (.c (.int .i64 1))⟩,
  ⟨some 8, none, .mv false (.t 9)⟩]
def parse_printer_stmt_r3 : List LOper := [
  ⟨some 10, none, .mv false (.t 0)⟩,
  ⟨some 11, none, .fieldAddr 1 (.t 3)⟩,
  ⟨some 12, none, .load false false 1 (.t 11)⟩,
  ⟨some 13, none, .fieldAddr 2 (.t 3)⟩,
  ⟨some 14, none, .load false false 1 (.t 13)⟩,
  ⟨some 15, none, .bslice false 4 1 [.str [], .str [], .str [], .str []] [(0, 1, (.c (.str [112, 117, 116]))), (1, 1, (.t 12)), (2, 1, (.c (.str [105, 110]))), (3, 1, (.t 14))]⟩,
  ⟨some 16, none, .call false 146 [(.t 10), (.t 15)]⟩]
def parse_printer_stmt_r4 : List LOper := [
  ⟨some 17, none, .fieldAddr 3 (.t 3)⟩,
  ⟨some 18, none, .load false true 3 (.t 17)⟩,
  ⟨some 19, none, .build [.bool false, .str [], .str []] []⟩,
  ⟨some 20, none, .eqv true (.struct [.b, .s, .s]) (.t 18) (.t 19)⟩]
def parse_printer_stmt_r5 : List LOper := [
  ⟨some 21, none, .mv false (.t 0)⟩,
  ⟨some 22, none, .fieldAddr 3 (.t 3)⟩,
  ⟨some 23, none, .load false true 3 (.t 22)⟩,
  ⟨some 24, none, .call false 175 [(.t 23)]⟩,
  ⟨some 25, none, .bslice false 2 1 [.str [], .str []] [(0, 1, (.c (.str [119, 105, 116, 104, 105, 110]))), (1, 1, (.t 24))]⟩,
  ⟨some 26, none, .call false 146 [(.t 21), (.t 25)]⟩]
def parse_printer_stmt_r6 : List LOper := [
  ⟨some 28, none, .bin .eql (.t 7) (.c (.int .i64 2))⟩,
  ⟨some 27, none, .mv false (.t 28)⟩]
def parse_printer_stmt_r7 : List LOper := [
  ⟨some 29, none, .mv false (.t 0)⟩,
  ⟨some 30, none, .fieldAddr 1 (.t 3)⟩,
  ⟨some 31, none, .load false false 1 (.t 30)⟩,
  ⟨some 32, none, .fieldAddr 2 (.t 3)⟩,
  ⟨some 33, none, .load false false 1 (.t 32)⟩,
  ⟨some 34, none, .bslice false 4 1 [.str [], .str [], .str [], .str []] [(0, 1, (.c (.str [104, 111, 108, 100]))), (1, 1, (.t 31)), (2, 1, (.c (.str [119, 105, 116, 104]))), (3, 1, (.t 33))]⟩,
  ⟨some 35, none, .call false 146 [(.t 29), (.t 34)]⟩]
def parse_printer_stmt_r8 : List LOper := [
  ⟨some 37, none, .bin .eql (.t 7) (.c (.int .i64 3))⟩,
  ⟨some 36, none, .mv false (.t 37)⟩]
def parse_printer_stmt_r9 : List LOper := [
  ⟨some 38, none, .mv false (.t 0)⟩,
  ⟨some 39, none, .fieldAddr 1 (.t 3)⟩,
  ⟨some 40, none, .load false false 1 (.t 39)⟩,
  ⟨some 41, none, .bslice false 2 1 [.str [], .str []] [(0, 1, (.c (.str [102, 114, 101, 101]))), (1, 1, (.t 40))]⟩,
  ⟨some 42, none, .call false 146 [(.t 38), (.t 41)]⟩]
def parse_printer_stmt_r10 : List LOper := [
  ⟨some 44, none, .bin .eql (.t 7) (.c (.int .i64 4))⟩,
  ⟨some 43, none, .mv false (.t 44)⟩]
def parse_printer_stmt_r11 : List LOper := [
  ⟨some 45, none, .mv false (.t 0)⟩,
  ⟨some 46, none, .fieldAddr 1 (.t 3)⟩,
  ⟨some 47, none, .load false false 1 (.t 46)⟩,
  ⟨some 48, none, .bslice false 2 1 [.str [], .str []] [(0, 1, (.c (.str [115, 101, 101]))), (1, 1, (.t 47))]⟩,
  ⟨some 49, none, .call false 146 [(.t 45), (.t 48)]⟩]
def parse_printer_stmt_r12 : List LOper := [
  ⟨some 51, none, .bin .eql (.t 7) (.c (.int .i64 5))⟩,
  ⟨some 50, none, .mv false (.t 51)⟩]
def parse_printer_stmt_r13 : List LOper := [
  ⟨some 52, none, .mv false (.t 0)⟩,
  ⟨some 53, none, .fieldAddr 6 (.t 3)⟩,
  ⟨some 54, none, .load false false 1 (.t 53)⟩,
  ⟨some 55, none, .call false 176 [(.t 54)]⟩,
  ⟨some 56, none, .bslice false 2 1 [.str [], .str []] [(0, 1, (.c (.str [119, 97, 105, 116]))), (1, 1, (.t 55))]⟩,
  ⟨some 57, none, .call false 146 [(.t 52), (.t 56)]⟩]
def parse_printer_stmt_r14 : List LOper := [
  ⟨some 59, none, .bin .eql (.t 7) (.c (.int .i64 6))⟩,
  ⟨some 58, none, .mv false (.t 59)⟩]
def parse_printer_stmt_r15 : List LOper := [
  ⟨some 60, none, .mv false (.t 0)⟩,
  ⟨some 61, none, .bslice false 1 1 [.str []] [(0, 1, (.c (.str [100, 111])))]⟩,
  ⟨some 62, none, .call false 146 [(.t 60), (.t 61)]⟩]
def parse_printer_stmt_r16 : List LOper := [
  ⟨some 64, none, .bin .eql (.t 7) (.c (.int .i64 7))⟩,
  ⟨some 63, none, .mv false (.t 64)⟩]
def parse_printer_stmt_r17 : List LOper := [
  ⟨some 65, none, .mv false (.t 0)⟩,
  ⟨some 66, none, .fieldAddr 6 (.t 3)⟩,
  ⟨some 67, none, .load false false 1 (.t 66)⟩,
  ⟨some 68, none, .call false 176 [(.t 67)]⟩,
  ⟨some 69, none, .bslice false 2 1 [.str [], .str []] [(0, 1, (.c (.str [114, 101, 112, 101, 97, 116]))), (1, 1, (.t 68))]⟩,
  ⟨some 70, none, .call false 146 [(.t 65), (.t 69)]⟩]
def parse_printer_stmt_r18 : List LOper := [
  ⟨some 72, none, .bin .eql (.t 7) (.c (.int .i64 8))⟩,
  ⟨some 71, none, .mv false (.t 72)⟩]
def parse_printer_stmt_r19 : List LOper := [
  ⟨some 73, none, .mv false (.t 0)⟩,
  ⟨some 74, none, .bslice false 1 1 [.str []] [(0, 1, (.c (.str [97, 110, 121])))]⟩,
  ⟨some 75, none, .call false 146 [(.t 73), (.t 74)]⟩]
def parse_printer_stmt_r20 : List LOper := [
  ⟨some 77, none, .bin .eql (.t 7) (.c (.int .i64 9))⟩,
  ⟨some 76, none, .mv false (.t 77)⟩]
def parse_printer_stmt_r21 : List LOper := [
  ⟨some 78, none, .mv false (.t 0)⟩,
  ⟨some 79, none, .bslice false 1 1 [.str []] [(0, 1, (.c (.str [116, 114, 121])))]⟩,
  ⟨some 80, none, .call false 146 [(.t 78), (.t 79)]⟩]
def parse_printer_stmt_r22 : List LOper := [
  ⟨some 81, none, .fieldAddr 0 (.t 3)⟩,
  ⟨some 82, none, .load false false 1 (.t 81)⟩,
  ⟨some 83, none, .bin .lss (.t 82) (.c (.int .i64 6))⟩]
def parse_printer_stmt_r23 : List LOper := [
  ⟨some 84, none, .mv false (.t 0)⟩,
  ⟨some 85, none, .bslice false 1 1 [.str []] [(0, 1, (.c (.str [59])))]⟩,
  ⟨some 86, none, .call false 146 [(.t 84), (.t 85)]⟩]
def parse_printer_stmt_r24 : List LOper := [
  ⟨some 87, none, .fieldAddr 7 (.t 3)⟩,
  ⟨some 88, none, .load false false 1 (.t 87)⟩,
  ⟨some 89, none, .lenL (.t 88)⟩,
  ⟨some 90, none, .mv false (.c (.int .i64 0))⟩]
def parse_printer_stmt_r25 : List LOper := [
  ⟨some 91, none, .bin .lss (.t 90) (.t 89)⟩]
def parse_printer_stmt_r26 : List LOper := [
  ⟨some 92, none, .mv false (.t 90)⟩,
  ⟨some 93, none, .indexAddr 1 (.t 88) (.t 90)⟩,
  ⟨some 94, none, .load false false 1 (.t 93)⟩,
  ⟨some 4, none, .mv false (.t 92)⟩,
  ⟨some 5, none, .mv false (.t 94)⟩]
def parse_printer_stmt_r27 : List LOper := [
  ⟨some 95, none, .mv false (.t 4)⟩,
  ⟨some 96, none, .bin .gtr (.t 95) (.c (.int .i64 0))⟩]
def parse_printer_stmt_r28 : List LOper := [
  ⟨some 97, none, .mv false (.t 0)⟩,
  ⟨some 98, none, .mkmap⟩,
  ⟨none, none, .update (.t 98) (.c (.int .i64 8)) (.c (.str [111, 114]))⟩,
  ⟨none, none, .update (.t 98) (.c (.int .i64 9)) (.c (.str [101, 108, 115, 101]))⟩,
  ⟨some 99, none, .mv false (.t 98)⟩,
  ⟨some 100, none, .fieldAddr 0 (.t 3)⟩,
  ⟨some 101, none, .load false false 1 (.t 100)⟩,
  ⟨some 102, none, .lookup (.str []) false (.t 99) (.t 101)⟩,
  ⟨some 103, none, .bslice false 1 1 [.str []] [(0, 1, (.t 102))]⟩,
  ⟨some 104, none, .call false 146 [(.t 97), (.t 103)]⟩]
def parse_printer_stmt_r29 : List LOper := [
  ⟨some 105, none, .mv false (.t 0)⟩,
  ⟨some 106, none, .mv false (.t 5)⟩,
  ⟨some 107, none, .call false 147 [(.t 105), (.t 106)]⟩]
def parse_printer_stmt_r30 : List LOper := [
  ⟨some 108, none, .bin .add (.t 90) (.c (.int .i64 1))⟩,
  ⟨some 90, none, .mv false (.t 108)⟩]
def parse_printer_stmt_b0 : LCode := (.seq (.ops parse_printer_stmt_r25) (.seq (.cond (.t 91) .skip (.exit 1)) (.seq (.block 2 (.seq (.ops parse_printer_stmt_r26) (.seq (.seq (.ops parse_printer_stmt_r27) (.cond (.t 96) (.ops parse_printer_stmt_r28) .skip)) (.ops parse_printer_stmt_r29)))) (.ops parse_printer_stmt_r30))))
def parse_printer_stmt_f : LFunc := ⟨109, 2, [], (.seq (.ops parse_printer_stmt_r0) (.seq (.seq (.ops parse_printer_stmt_r1) (.block 0 (.seq (.ops parse_printer_stmt_r2) (.cond (.t 8) (.seq (.ops parse_printer_stmt_r3) (.seq (.ops parse_printer_stmt_r4) (.cond (.t 20) (.ops parse_printer_stmt_r5) .skip))) (.seq (.ops parse_printer_stmt_r6) (.cond (.t 27) (.ops parse_printer_stmt_r7) (.seq (.ops parse_printer_stmt_r8) (.cond (.t 36) (.ops parse_printer_stmt_r9) (.seq (.ops parse_printer_stmt_r10) (.cond (.t 43) (.ops parse_printer_stmt_r11) (.seq (.ops parse_printer_stmt_r12) (.cond (.t 50) (.ops parse_printer_stmt_r13) (.seq (.ops parse_printer_stmt_r14) (.cond (.t 58) (.ops parse_printer_stmt_r15) (.seq (.ops parse_printer_stmt_r16) (.cond (.t 63) (.ops parse_printer_stmt_r17) (.seq (.ops parse_printer_stmt_r18) (.cond (.t 71) (.ops parse_printer_stmt_r19) (.seq (.ops parse_printer_stmt_r20) (.cond (.t 76) (.ops parse_printer_stmt_r21) .skip)))))))))))))))))))) (.seq (.seq (.ops parse_printer_stmt_r22) (.cond (.t 83) (.ops parse_printer_stmt_r23) .skip)) (.seq (.ops parse_printer_stmt_r24) (.block 1 (.loop [0, 3, 88, 89, 90] parse_printer_stmt_b0))))))⟩
def parse_printer_stmt_v : VFunc := ⟨parse_printer_stmt_f, false, false, false⟩
theorem parse_printer_stmt_ok : preFunc Tryd.prog ⟨[], [], []⟩ Tryd.f158 [[0, 3, 88, 89, 90]] = some parse_printer_stmt_f := by kernel_rfl

-- gantry/word.letter
def word_letter_r0 : List LOper := [
  ⟨some 2, none, .mv false (.c (.bool false))⟩]
def word_letter_r1 : List LOper := [
  ⟨some 3, none, .mv false (.t 0)⟩,
  ⟨some 4, none, .bin .geq (.t 3) (.c (.int .u8 97))⟩,
  ⟨some 5, none, .mv false (.t 4)⟩,
  ⟨some 6, some (5, true), .mv false (.t 0)⟩,
  ⟨some 7, some (5, true), .bin .leq (.t 6) (.c (.int .u8 122))⟩,
  ⟨some 8, none, .pick (.t 5) (.t 7) (.c (.bool false))⟩,
  ⟨some 2, none, .mv false (.t 8)⟩]
def word_letter_f : LFunc := ⟨9, 1, [.tmp 2], (.seq (.ops word_letter_r0) (.seq (.ops word_letter_r1) .ret))⟩
def word_letter_v : VFunc := ⟨word_letter_f, true, false, false⟩
theorem word_letter_ok : preFunc Tryd.prog ⟨[], [], []⟩ Tryd.f172 [] = some word_letter_f := by kernel_rfl

-- slices.Contains[[]string,string]
def slices_Contains_stringstring_r0 : List LOper := [
  ⟨some 4, none, .mv false (.c (.bool false))⟩]
def slices_Contains_stringstring_r1 : List LOper := [
  ⟨some 5, none, .mv false (.t 0)⟩,
  ⟨some 6, none, .mv false (.t 1)⟩,
  ⟨some 7, none, .call false 183 [(.t 5), (.t 6)]⟩,
  ⟨some 8, none, .bin .geq (.t 7) (.c (.int .i64 0))⟩,
  ⟨some 4, none, .mv false (.t 8)⟩]
def slices_Contains_stringstring_f : LFunc := ⟨9, 2, [.tmp 4], (.seq (.ops slices_Contains_stringstring_r0) (.seq (.ops slices_Contains_stringstring_r1) .ret))⟩
def slices_Contains_stringstring_v : VFunc := ⟨slices_Contains_stringstring_f, true, false, false⟩
theorem slices_Contains_stringstring_ok : preFunc Tryd.prog ⟨[], [], []⟩ Tryd.f173 [] = some slices_Contains_stringstring_f := by kernel_rfl

-- gantry/rat.Small
def rat_Small_r0 : List LOper := [
  ⟨some 1, none, .box (.t 0)⟩,
  ⟨some 2, none, .mv false (.c (.bool false))⟩]
def rat_Small_r1 : List LOper := [
  ⟨some 3, none, .fieldAddr 1 (.t 1)⟩,
  ⟨some 4, none, .load false false 1 (.t 3)⟩,
  ⟨some 5, none, .lenS (.t 4)⟩,
  ⟨some 6, none, .bin .leq (.t 5) (.c (.int .i64 3))⟩,
  ⟨some 7, none, .mv false (.t 6)⟩,
  ⟨some 8, some (7, true), .fieldAddr 2 (.t 1)⟩,
  ⟨some 9, some (7, true), .load false false 1 (.t 8)⟩,
  ⟨some 10, some (7, true), .lenS (.t 9)⟩,
  ⟨some 11, some (7, true), .bin .leq (.t 10) (.c (.int .i64 2))⟩,
  ⟨some 12, none, .pick (.t 7) (.t 11) (.c (.bool false))⟩,
  ⟨some 13, none, .mv false (.t 12)⟩,
  ⟨some 14, some (13, true), .load false true 3 (.t 1)⟩,
  ⟨some 15, some (13, true), .call true 115 [(.t 14)]⟩,
  ⟨some 16, none, .pick (.t 13) (.t 15) (.c (.bool false))⟩,
  ⟨some 17, none, .mv false (.t 16)⟩,
  ⟨some 18, some (17, true), .fieldAddr 1 (.t 1)⟩,
  ⟨some 19, some (17, true), .load false false 1 (.t 18)⟩,
  ⟨some 20, some (17, true), .call true 93 [(.c (.int .i64 1000000))]⟩,
  ⟨some 21, some (17, true), .call true 73 [(.t 19), (.t 20)]⟩,
  ⟨some 22, some (17, true), .bin .leq (.t 21) (.c (.int .i64 0))⟩,
  ⟨some 23, none, .pick (.t 17) (.t 22) (.c (.bool false))⟩,
  ⟨some 24, none, .mv false (.t 23)⟩,
  ⟨some 25, some (24, true), .fieldAddr 2 (.t 1)⟩,
  ⟨some 26, some (24, true), .load false false 1 (.t 25)⟩,
  ⟨some 27, some (24, true), .call true 93 [(.c (.int .i64 1000))]⟩,
  ⟨some 28, some (24, true), .call true 73 [(.t 26), (.t 27)]⟩,
  ⟨some 29, some (24, true), .bin .leq (.t 28) (.c (.int .i64 0))⟩,
  ⟨some 30, none, .pick (.t 24) (.t 29) (.c (.bool false))⟩,
  ⟨some 2, none, .mv false (.t 30)⟩]
theorem rat_Small_r1_d : drawC [0, 1, 3, 7, 15, 31, 63, 127, 255, 511, 1023, 2047, 4095, 8191, 16383, 32767, 65535, 32767, 262143, 524287, 1048575, 2097151, 4194303, 8388607, 4194303, 33554431, 67108863, 134217727, 268435455] [
  ⟨some 3, none, .fieldAddr 1 (.t 1)⟩,
  ⟨some 4, none, .load false false 1 (.t 3)⟩,
  ⟨some 5, none, .lenS (.t 4)⟩,
  ⟨some 6, none, .bin .leq (.t 5) (.c (.int .i64 3))⟩,
  ⟨some 7, none, .mv false (.t 6)⟩,
  ⟨some 8, some (7, true), .fieldAddr 2 (.t 1)⟩,
  ⟨some 9, some (7, true), .load false false 1 (.t 8)⟩,
  ⟨some 10, some (7, true), .lenS (.t 9)⟩,
  ⟨some 11, some (7, true), .bin .leq (.t 10) (.c (.int .i64 2))⟩,
  ⟨some 12, none, .pick (.t 7) (.t 11) (.c (.bool false))⟩,
  ⟨some 13, none, .mv false (.t 12)⟩,
  ⟨some 14, some (13, true), .load false true 3 (.t 1)⟩,
  ⟨some 15, some (13, true), .call true 115 [(.t 14)]⟩,
  ⟨some 16, none, .pick (.t 13) (.t 15) (.c (.bool false))⟩,
  ⟨some 17, none, .mv false (.t 16)⟩,
  ⟨some 18, some (17, true), .fieldAddr 1 (.t 1)⟩,
  ⟨some 19, some (17, true), .load false false 1 (.t 18)⟩,
  ⟨some 20, some (17, true), .call true 93 [(.c (.int .i64 1000000))]⟩,
  ⟨some 21, some (17, true), .call true 73 [(.t 19), (.t 20)]⟩,
  ⟨some 22, some (17, true), .bin .leq (.t 21) (.c (.int .i64 0))⟩,
  ⟨some 23, none, .pick (.t 17) (.t 22) (.c (.bool false))⟩,
  ⟨some 24, none, .mv false (.t 23)⟩,
  ⟨some 25, some (24, true), .fieldAddr 2 (.t 1)⟩,
  ⟨some 26, some (24, true), .load false false 1 (.t 25)⟩,
  ⟨some 27, some (24, true), .call true 93 [(.c (.int .i64 1000))]⟩,
  ⟨some 28, some (24, true), .call true 73 [(.t 26), (.t 27)]⟩,
  ⟨some 29, some (24, true), .bin .leq (.t 28) (.c (.int .i64 0))⟩,
  ⟨some 30, none, .pick (.t 24) (.t 29) (.c (.bool false))⟩,
  ⟨some 2, none, .mv false (.t 30)⟩] = true := by kernel_rfl
def rat_Small_f : LFunc := ⟨31, 1, [.tmp 2], (.seq (.ops rat_Small_r0) (.seq (.dops [0, 1, 3, 7, 15, 31, 63, 127, 255, 511, 1023, 2047, 4095, 8191, 16383, 32767, 65535, 32767, 262143, 524287, 1048575, 2097151, 4194303, 8388607, 4194303, 33554431, 67108863, 134217727, 268435455] rat_Small_r1) .ret))⟩
def rat_Small_v : VFunc := ⟨rat_Small_f, true, false, false⟩
theorem rat_Small_ok : preFunc Tryd.prog ⟨[], [], [15, 20, 21, 27, 28]⟩ Tryd.f174 [] = some rat_Small_f := by kernel_rfl

-- gantry/parse.number
def parse_number_r0 : List LOper := [
  ⟨some 2, none, .mv false (.c (.str []))⟩]
def parse_number_r1 : List LOper := [
  ⟨some 3, none, .mv false (.t 0)⟩,
  ⟨some 4, none, .call false 185 [(.t 3), (.c (.int .i64 10))]⟩,
  ⟨some 2, none, .mv false (.t 4)⟩]
def parse_number_f : LFunc := ⟨5, 1, [.tmp 2], (.seq (.ops parse_number_r0) (.seq (.ops parse_number_r1) .ret))⟩
def parse_number_v : VFunc := ⟨parse_number_f, true, false, false⟩
theorem parse_number_ok : preFunc Tryd.prog ⟨[], [], []⟩ Tryd.f176 [] = some parse_number_f := by kernel_rfl

-- slices.Index[[]string,string]
def slices_Index_stringstring_r0 : List LOper := [
  ⟨some 4, none, .mv false (.c (.int .i64 0))⟩]
def slices_Index_stringstring_r1 : List LOper := [
  ⟨some 6, none, .mv false (.t 0)⟩,
  ⟨some 7, none, .lenL (.t 6)⟩,
  ⟨some 8, none, .mv false (.c (.int .i64 0))⟩]
def slices_Index_stringstring_r2 : List LOper := [
  ⟨some 9, none, .bin .lss (.t 8) (.t 7)⟩]
def slices_Index_stringstring_r3 : List LOper := [
  ⟨some 10, none, .mv false (.t 8)⟩,
  ⟨some 5, none, .mv false (.t 10)⟩]
def slices_Index_stringstring_r4 : List LOper := [
  ⟨some 11, none, .mv false (.t 1)⟩,
  ⟨some 12, none, .mv false (.t 0)⟩,
  ⟨some 13, none, .mv false (.t 5)⟩,
  ⟨some 14, none, .indexAddr 1 (.t 12) (.t 13)⟩,
  ⟨some 15, none, .load false false 1 (.t 14)⟩,
  ⟨some 16, none, .bin .eql (.t 11) (.t 15)⟩]
def slices_Index_stringstring_r5 : List LOper := [
  ⟨some 17, none, .mv false (.t 5)⟩,
  ⟨some 4, none, .mv false (.t 17)⟩]
def slices_Index_stringstring_r6 : List LOper := [
  ⟨some 18, none, .bin .add (.t 8) (.c (.int .i64 1))⟩,
  ⟨some 8, none, .mv false (.t 18)⟩]
def slices_Index_stringstring_b0 : LCode := (.seq (.ops slices_Index_stringstring_r2) (.seq (.cond (.t 9) .skip (.exit 0)) (.seq (.block 1 (.seq (.ops slices_Index_stringstring_r3) (.seq (.ops slices_Index_stringstring_r4) (.cond (.t 16) (.seq (.ops slices_Index_stringstring_r5) .ret) .skip)))) (.ops slices_Index_stringstring_r6))))
def slices_Index_stringstring_r7 : List LOper := [
  ⟨some 4, none, .mv false (.c (.int .i64 (-1)))⟩]
def slices_Index_stringstring_f : LFunc := ⟨19, 2, [.tmp 4], (.seq (.ops slices_Index_stringstring_r0) (.seq (.seq (.ops slices_Index_stringstring_r1) (.block 0 (.loop [0, 1, 7, 8] slices_Index_stringstring_b0))) (.seq (.ops slices_Index_stringstring_r7) .ret)))⟩
def slices_Index_stringstring_v : VFunc := ⟨slices_Index_stringstring_f, true, false, false⟩
theorem slices_Index_stringstring_ok : preFunc Tryd.prog ⟨[], [], []⟩ Tryd.f183 [[0, 1, 7, 8]] = some slices_Index_stringstring_f := by kernel_rfl

-- strconv.FormatInt
def strconv_FormatInt_r0 : List LOper := [
  ⟨some 4, none, .mv false (.c (.str []))⟩]
def strconv_FormatInt_r1 : List LOper := [
  ⟨some 5, none, .mv false (.t 0)⟩,
  ⟨some 6, none, .mv false (.t 1)⟩,
  ⟨some 7, none, .call false 188 [(.t 5), (.t 6)]⟩,
  ⟨some 4, none, .mv false (.t 7)⟩]
def strconv_FormatInt_f : LFunc := ⟨8, 2, [.tmp 4], (.seq (.ops strconv_FormatInt_r0) (.seq (.ops strconv_FormatInt_r1) .ret))⟩
def strconv_FormatInt_v : VFunc := ⟨strconv_FormatInt_f, true, false, false⟩
theorem strconv_FormatInt_ok : preFunc Tryd.prog ⟨[], [], []⟩ Tryd.f185 [] = some strconv_FormatInt_f := by kernel_rfl

-- internal/strconv.FormatInt
def strconv_FormatIntx_r0 : List LOper := [
  ⟨some 4, none, .mv false (.c (.str []))⟩]
def strconv_FormatIntx_r1 : List LOper := [
  ⟨some 10, none, .mv false (.t 1)⟩,
  ⟨some 11, none, .bin .eql (.t 10) (.c (.int .i64 10))⟩]
def strconv_FormatIntx_r2 : List LOper := [
  ⟨some 12, none, .mv false (.t 0)⟩,
  ⟨some 13, none, .bin .leq (.c (.int .i64 0)) (.t 12)⟩,
  ⟨some 14, none, .mv false (.t 13)⟩,
  ⟨some 15, some (14, true), .mv false (.t 0)⟩,
  ⟨some 16, some (14, true), .bin .lss (.t 15) (.c (.int .i64 100))⟩,
  ⟨some 17, none, .pick (.t 14) (.t 16) (.c (.bool false))⟩]
def strconv_FormatIntx_r3 : List LOper := [
  ⟨some 18, none, .mv false (.t 0)⟩,
  ⟨some 19, none, .call false 189 [(.t 18)]⟩,
  ⟨some 4, none, .mv false (.t 19)⟩]
def strconv_FormatIntx_r4 : List LOper := [
  ⟨some 5, none, .alloc [.int .u8 0, .int .u8 0, .int .u8 0, .int .u8 0, .int .u8 0, .int .u8 0, .int .u8 0, .int .u8 0, .int .u8 0, .int .u8 0, .int .u8 0, .int .u8 0, .int .u8 0, .int .u8 0, .int .u8 0, .int .u8 0, .int .u8 0, .int .u8 0, .int .u8 0, .int .u8 0, .int .u8 0, .int .u8 0, .int .u8 0, .int .u8 0]⟩]
def strconv_FormatIntx_r5 : List LOper := [
  ⟨some 20, none, .mv false (.t 0)⟩,
  ⟨some 21, none, .conv .u64 (.t 20)⟩,
  ⟨some 6, none, .mv false (.t 21)⟩]
def strconv_FormatIntx_r6 : List LOper := [
  ⟨some 22, none, .mv false (.t 0)⟩,
  ⟨some 23, none, .bin .lss (.t 22) (.c (.int .i64 0))⟩]
def strconv_FormatIntx_r7 : List LOper := [
  ⟨some 24, none, .mv false (.t 6)⟩,
  ⟨some 25, none, .un .neg (.t 24)⟩,
  ⟨some 6, none, .mv false (.t 25)⟩]
def strconv_FormatIntx_r8 : List LOper := [
  ⟨some 26, none, .mv false (.t 6)⟩,
  ⟨some 27, none, .call false 190 [(.t 26)]⟩,
  ⟨some 7, none, .mv false (.t 27)⟩]
def strconv_FormatIntx_r9 : List LOper := [
  ⟨some 28, none, .mv false (.t 7)⟩,
  ⟨some 29, none, .bin .add (.c (.int .i64 1)) (.t 28)⟩,
  ⟨some 30, none, .slcA 24 1 (.t 5) (some (.c (.int .i64 1))) (some (.t 29))⟩,
  ⟨some 31, none, .mv false (.t 6)⟩,
  ⟨some 32, none, .call false 191 [(.t 30), (.t 31)]⟩]
def strconv_FormatIntx_r10 : List LOper := [
  ⟨some 33, none, .mv false (.t 0)⟩,
  ⟨some 34, none, .bin .lss (.t 33) (.c (.int .i64 0))⟩]
def strconv_FormatIntx_r11 : List LOper := [
  ⟨some 35, none, .indexAddrA 24 1 (.t 5) (.c (.int .i64 0))⟩,
  ⟨none, none, .store 1 (.t 35) (.c (.int .u8 45))⟩]
def strconv_FormatIntx_r12 : List LOper := [
  ⟨some 36, none, .mv false (.t 7)⟩,
  ⟨some 37, none, .bin .add (.c (.int .i64 1)) (.t 36)⟩,
  ⟨some 38, none, .slcA 24 1 (.t 5) none (some (.t 37))⟩,
  ⟨some 39, none, .b2s (.t 38)⟩,
  ⟨some 4, none, .mv false (.t 39)⟩]
def strconv_FormatIntx_r13 : List LOper := [
  ⟨some 40, none, .mv false (.t 7)⟩,
  ⟨some 41, none, .bin .add (.c (.int .i64 1)) (.t 40)⟩,
  ⟨some 42, none, .slcA 24 1 (.t 5) (some (.c (.int .i64 1))) (some (.t 41))⟩,
  ⟨some 43, none, .b2s (.t 42)⟩,
  ⟨some 4, none, .mv false (.t 43)⟩]
def strconv_FormatIntx_r14 : List LOper := [
  ⟨some 45, none, .mv false (.t 0)⟩,
  ⟨some 46, none, .conv .u64 (.t 45)⟩,
  ⟨some 47, none, .mv false (.t 1)⟩,
  ⟨some 48, none, .mv false (.t 0)⟩,
  ⟨some 49, none, .bin .lss (.t 48) (.c (.int .i64 0))⟩,
  ⟨some 50, none, .call false 192 [(.c (.nilslice)), (.t 46), (.t 47), (.t 49), (.c (.bool false))]⟩,
  ⟨some 44, none, .mv false (.t 50)⟩,
  ⟨some 51, none, .extract 0 (.t 44)⟩,
  ⟨some 52, none, .extract 1 (.t 44)⟩,
  ⟨some 8, none, .mv false (.t 51)⟩,
  ⟨some 9, none, .mv false (.t 52)⟩]
def strconv_FormatIntx_r15 : List LOper := [
  ⟨some 53, none, .mv false (.t 9)⟩,
  ⟨some 4, none, .mv false (.t 53)⟩]
def strconv_FormatIntx_f : LFunc := ⟨54, 2, [.tmp 4], (.seq (.ops strconv_FormatIntx_r0) (.seq (.seq (.ops strconv_FormatIntx_r1) (.cond (.t 11) (.seq (.seq (.ops strconv_FormatIntx_r2) (.cond (.t 17) (.seq (.ops strconv_FormatIntx_r3) .ret) .skip)) (.seq (.ops strconv_FormatIntx_r4) (.seq (.ops strconv_FormatIntx_r5) (.seq (.seq (.ops strconv_FormatIntx_r6) (.cond (.t 23) (.ops strconv_FormatIntx_r7) .skip)) (.seq (.ops strconv_FormatIntx_r8) (.seq (.ops strconv_FormatIntx_r9) (.seq (.seq (.ops strconv_FormatIntx_r10) (.cond (.t 34) (.seq (.ops strconv_FormatIntx_r11) (.seq (.ops strconv_FormatIntx_r12) .ret)) .skip)) (.seq (.ops strconv_FormatIntx_r13) .ret)))))))) .skip)) (.seq (.ops strconv_FormatIntx_r14) (.seq (.ops strconv_FormatIntx_r15) .ret))))⟩
def strconv_FormatIntx_v : VFunc := ⟨strconv_FormatIntx_f, true, false, false⟩
theorem strconv_FormatIntx_ok : preFunc Tryd.prog ⟨[], [], []⟩ Tryd.f188 [] = some strconv_FormatIntx_f := by kernel_rfl

-- internal/strconv.small
def strconv_small_r0 : List LOper := [
  ⟨some 2, none, .mv false (.c (.str []))⟩]
def strconv_small_r1 : List LOper := [
  ⟨some 3, none, .mv false (.t 0)⟩,
  ⟨some 4, none, .bin .lss (.t 3) (.c (.int .i64 10))⟩]
def strconv_small_r2 : List LOper := [
  ⟨some 5, none, .mv false (.t 0)⟩,
  ⟨some 6, none, .mv false (.t 0)⟩,
  ⟨some 7, none, .bin .add (.t 6) (.c (.int .i64 1))⟩,
  ⟨some 8, none, .slc 0 (.c (.str [48, 49, 50, 51, 52, 53, 54, 55, 56, 57, 97, 98, 99, 100, 101, 102, 103, 104, 105, 106, 107, 108, 109, 110, 111, 112, 113, 114, 115, 116, 117, 118, 119, 120, 121, 122])) (some (.t 5)) (some (.t 7)) none⟩,
  ⟨some 2, none, .mv false (.t 8)⟩]
def strconv_small_r3 : List LOper := [
  ⟨some 9, none, .mv false (.t 0)⟩,
  ⟨some 10, none, .bin .mul (.t 9) (.c (.int .i64 2))⟩,
  ⟨some 11, none, .mv false (.t 0)⟩,
  ⟨some 12, none, .bin .mul (.t 11) (.c (.int .i64 2))⟩,
  ⟨some 13, none, .bin .add (.t 12) (.c (.int .i64 2))⟩,
  ⟨some 14, none, .slc 0 (.c (.str [48, 48, 48, 49, 48, 50, 48, 51, 48, 52, 48, 53, 48, 54, 48, 55, 48, 56, 48, 57, 49, 48, 49, 49, 49, 50, 49, 51, 49, 52, 49, 53, 49, 54, 49, 55, 49, 56, 49, 57, 50, 48, 50, 49, 50, 50, 50, 51, 50, 52, 50, 53, 50, 54, 50, 55, 50, 56, 50, 57, 51, 48, 51, 49, 51, 50, 51, 51, 51, 52, 51, 53, 51, 54, 51, 55, 51, 56, 51, 57, 52, 48, 52, 49, 52, 50, 52, 51, 52, 52, 52, 53, 52, 54, 52, 55, 52, 56, 52, 57, 53, 48, 53, 49, 53, 50, 53, 51, 53, 52, 53, 53, 53, 54, 53, 55, 53, 56, 53, 57, 54, 48, 54, 49, 54, 50, 54, 51, 54, 52, 54, 53, 54, 54, 54, 55, 54, 56, 54, 57, 55, 48, 55, 49, 55, 50, 55, 51, 55, 52, 55, 53, 55, 54, 55, 55, 55, 56, 55, 57, 56, 48, 56, 49, 56, 50, 56, 51, 56, 52, 56, 53, 56, 54, 56, 55, 56, 56, 56, 57, 57, 48, 57, 49, 57, 50, 57, 51, 57, 52, 57, 53, 57, 54, 57, 55, 57, 56, 57, 57])) (some (.t 10)) (some (.t 13)) none⟩,
  ⟨some 2, none, .mv false (.t 14)⟩]
def strconv_small_f : LFunc := ⟨15, 1, [.tmp 2], (.seq (.ops strconv_small_r0) (.seq (.seq (.ops strconv_small_r1) (.cond (.t 4) (.seq (.ops strconv_small_r2) .ret) .skip)) (.seq (.ops strconv_small_r3) .ret)))⟩
def strconv_small_v : VFunc := ⟨strconv_small_f, true, false, false⟩
theorem strconv_small_ok : preFunc Tryd.prog ⟨[], [], []⟩ Tryd.f189 [] = some strconv_small_f := by kernel_rfl

-- internal/bytealg.CompareString
def bytealg_CompareString_f : LFunc := ext2 .cmp
def bytealg_CompareString_v : VFunc := ⟨bytealg_CompareString_f, true, false, false⟩

-- strings.Join
def strings_Join_f : LFunc := ext2 .join
def strings_Join_v : VFunc := ⟨strings_Join_f, true, false, false⟩

-- slices.Concat[[]gantry/parse.Stmt,gantry/parse.Stmt]
def slices_Concat_antryparseStmt_f : LFunc := Vg.G3d.concatF 8 112
def slices_Concat_antryparseStmt_v : VFunc := ⟨slices_Concat_antryparseStmt_f, true, false, false⟩

abbrev n_gantkeep4_ParseWeighs : Nat := 12
abbrev n_gantmake_Of : Nat := 20
abbrev n_gantmake_Below : Nat := 21
abbrev n_gantkeep4_Small : Nat := 28
abbrev n_gantkeep4_Job : Nat := 42
abbrev n_parse_Weight : Nat := 53
abbrev n_gantkeep4_parsed : Nat := 55
abbrev n_parse_Leaves : Nat := 56
abbrev n_gantmake_Stream_Next : Nat := 58
abbrev n_gantmake_digits : Nat := 65
abbrev n_rat_fit : Nat := 67
abbrev n_nat_Cmp : Nat := 73
abbrev n_parse_Check : Nat := 77
abbrev n_nat_Of : Nat := 93
abbrev n_gantkeep4_stmts : Nat := 95
abbrev n_parse_stmts : Nat := 108
abbrev n_parse_Print : Nat := 110
abbrev n_parse_Leaves_1 : Nat := 111
abbrev n_slices_Reverse_bytebyte : Nat := 114
abbrev n_rat_Good : Nat := 115
abbrev n_nat_Gcd : Nat := 118
abbrev n_nat_trim : Nat := 120
abbrev n_nat_fromShort : Nat := 121
abbrev n_nat_short : Nat := 122
abbrev n_strings_Compare : Nat := 125
abbrev n_parse_Name : Nat := 127
abbrev n_gantkeep4_stmt : Nat := 136
abbrev n_rat_Sign : Nat := 144
abbrev n_parse_stmt : Nat := 145
abbrev n_parse_printer_put : Nat := 146
abbrev n_parse_printer_block : Nat := 147
abbrev n_nat_common : Nat := 150
abbrev n_word_IsName : Nat := 154
abbrev n_parse_keyword : Nat := 155
abbrev n_parse_plain : Nat := 156
abbrev n_parse_shape : Nat := 157
abbrev n_parse_printer_stmt : Nat := 158
abbrev n_word_letter : Nat := 172
abbrev n_slices_Contains_stringstring : Nat := 173
abbrev n_rat_Small : Nat := 174
abbrev n_parse_number : Nat := 176
abbrev n_slices_Index_stringstring : Nat := 183
abbrev n_strconv_FormatInt : Nat := 185
abbrev n_strconv_FormatIntx : Nat := 188
abbrev n_strconv_small : Nat := 189
abbrev n_bytealg_CompareString : Nat := 153
abbrev n_strings_Join : Nat := 148
abbrev n_slices_Concat_antryparseStmt : Nat := 54
def vp : VProg
  | 12 => some gantkeep4_ParseWeighs_v
  | 20 => some gantmake_Of_v
  | 21 => some gantmake_Below_v
  | 28 => some gantkeep4_Small_v
  | 42 => some gantkeep4_Job_v
  | 53 => some parse_Weight_v
  | 55 => some gantkeep4_parsed_v
  | 56 => some parse_Leaves_v
  | 58 => some gantmake_Stream_Next_v
  | 65 => some gantmake_digits_v
  | 67 => some rat_fit_v
  | 73 => some nat_Cmp_v
  | 77 => some parse_Check_v
  | 93 => some nat_Of_v
  | 95 => some gantkeep4_stmts_v
  | 108 => some parse_stmts_v
  | 110 => some parse_Print_v
  | 111 => some parse_Leaves_1_v
  | 114 => some slices_Reverse_bytebyte_v
  | 115 => some rat_Good_v
  | 118 => some nat_Gcd_v
  | 120 => some nat_trim_v
  | 121 => some nat_fromShort_v
  | 122 => some nat_short_v
  | 125 => some strings_Compare_v
  | 127 => some parse_Name_v
  | 136 => some gantkeep4_stmt_v
  | 144 => some rat_Sign_v
  | 145 => some parse_stmt_v
  | 146 => some parse_printer_put_v
  | 147 => some parse_printer_block_v
  | 150 => some nat_common_v
  | 154 => some word_IsName_v
  | 155 => some parse_keyword_v
  | 156 => some parse_plain_v
  | 157 => some parse_shape_v
  | 158 => some parse_printer_stmt_v
  | 172 => some word_letter_v
  | 173 => some slices_Contains_stringstring_v
  | 174 => some rat_Small_v
  | 176 => some parse_number_v
  | 183 => some slices_Index_stringstring_v
  | 185 => some strconv_FormatInt_v
  | 188 => some strconv_FormatIntx_v
  | 189 => some strconv_small_v
  | 153 => some bytealg_CompareString_v
  | 148 => some strings_Join_v
  | 54 => some slices_Concat_antryparseStmt_v
  | _ => none
def lp : LProg := fun f => (vp f).map (·.fn)
theorem lp_ok : PSound false Tryd.prog lp := by
  intro f lf h
  unfold lp at h
  unfold vp at h
  split at h
  · cases h; exact .inl ⟨_, _, _, Tryd.func12, gantkeep4_ParseWeighs_ok⟩
  · cases h; exact .inl ⟨_, _, _, Tryd.func20, gantmake_Of_ok⟩
  · cases h; exact .inl ⟨_, _, _, Tryd.func21, gantmake_Below_ok⟩
  · cases h; exact .inl ⟨_, _, _, Tryd.func28, gantkeep4_Small_ok⟩
  · cases h; exact .inl ⟨_, _, _, Tryd.func42, gantkeep4_Job_ok⟩
  · cases h; exact .inl ⟨_, _, _, Tryd.func53, parse_Weight_ok⟩
  · cases h; exact .inl ⟨_, _, _, Tryd.func55, gantkeep4_parsed_ok⟩
  · cases h; exact .inl ⟨_, _, _, Tryd.func56, parse_Leaves_ok⟩
  · cases h; exact .inl ⟨_, _, _, Tryd.func58, gantmake_Stream_Next_ok⟩
  · cases h; exact .inl ⟨_, _, _, Tryd.func65, gantmake_digits_ok⟩
  · cases h; exact .inl ⟨_, _, _, Tryd.func67, rat_fit_ok⟩
  · cases h; exact .inl ⟨_, _, _, Tryd.func73, nat_Cmp_ok⟩
  · cases h; exact .inl ⟨_, _, _, Tryd.func77, parse_Check_ok⟩
  · cases h; exact .inl ⟨_, _, _, Tryd.func93, nat_Of_ok⟩
  · cases h; exact .inl ⟨_, _, _, Tryd.func95, gantkeep4_stmts_ok⟩
  · cases h; exact .inl ⟨_, _, _, Tryd.func108, parse_stmts_ok⟩
  · cases h; exact .inl ⟨_, _, _, Tryd.func110, parse_Print_ok⟩
  · cases h; exact .inl ⟨_, _, _, Tryd.func111, parse_Leaves_1_ok⟩
  · cases h; exact .inl ⟨_, _, _, Tryd.func114, slices_Reverse_bytebyte_ok⟩
  · cases h; exact .inl ⟨_, _, _, Tryd.func115, rat_Good_ok⟩
  · cases h; exact .inl ⟨_, _, _, Tryd.func118, nat_Gcd_ok⟩
  · cases h; exact .inl ⟨_, _, _, Tryd.func120, nat_trim_ok⟩
  · cases h; exact .inl ⟨_, _, _, Tryd.func121, nat_fromShort_ok⟩
  · cases h; exact .inl ⟨_, _, _, Tryd.func122, nat_short_ok⟩
  · cases h; exact .inl ⟨_, _, _, Tryd.func125, strings_Compare_ok⟩
  · cases h; exact .inl ⟨_, _, _, Tryd.func127, parse_Name_ok⟩
  · cases h; exact .inl ⟨_, _, _, Tryd.func136, gantkeep4_stmt_ok⟩
  · cases h; exact .inl ⟨_, _, _, Tryd.func144, rat_Sign_ok⟩
  · cases h; exact .inl ⟨_, _, _, Tryd.func145, parse_stmt_ok⟩
  · cases h; exact .inl ⟨_, _, _, Tryd.func146, parse_printer_put_ok⟩
  · cases h; exact .inl ⟨_, _, _, Tryd.func147, parse_printer_block_ok⟩
  · cases h; exact .inl ⟨_, _, _, Tryd.func150, nat_common_ok⟩
  · cases h; exact .inl ⟨_, _, _, Tryd.func154, word_IsName_ok⟩
  · cases h; exact .inl ⟨_, _, _, Tryd.func155, parse_keyword_ok⟩
  · cases h; exact .inl ⟨_, _, _, Tryd.func156, parse_plain_ok⟩
  · cases h; exact .inl ⟨_, _, _, Tryd.func157, parse_shape_ok⟩
  · cases h; exact .inl ⟨_, _, _, Tryd.func158, parse_printer_stmt_ok⟩
  · cases h; exact .inl ⟨_, _, _, Tryd.func172, word_letter_ok⟩
  · cases h; exact .inl ⟨_, _, _, Tryd.func173, slices_Contains_stringstring_ok⟩
  · cases h; exact .inl ⟨_, _, _, Tryd.func174, rat_Small_ok⟩
  · cases h; exact .inl ⟨_, _, _, Tryd.func176, parse_number_ok⟩
  · cases h; exact .inl ⟨_, _, _, Tryd.func183, slices_Index_stringstring_ok⟩
  · cases h; exact .inl ⟨_, _, _, Tryd.func185, strconv_FormatInt_ok⟩
  · cases h; exact .inl ⟨_, _, _, Tryd.func188, strconv_FormatIntx_ok⟩
  · cases h; exact .inl ⟨_, _, _, Tryd.func189, strconv_small_ok⟩
  · cases h; exact .inr CompareString_ext
  · cases h; exact .inr strings_Join_ext
  · cases h; exact .inr (Vg.G3d.concat_ok rfl)
  · cases h
theorem vp_link (f : FuncId) : Link (lp f) (vp f) := by
  unfold lp
  exact .of_eq rfl
theorem law {f : FuncId} {args : List VV} {h1 : VHeap} (hE : callVL vp 0 f args [] = some (.bool true, h1)) {w : World} {ρ : List Lg.Place} {lh : Heap} (R : Rep (m := false) ⟨w⟩ ρ lh w) {vs : Array Value} {largs : List LV} (hv : VRs ρ vs.toList largs) (hr : RVs (fun _ => none) [] lh args largs) :
    Calls Tryd.prog f vs w fun e w' => e = .returned (.bool true) ∧ Below w.heap.size w w' := law_true lp_ok vp_link hE R hv hr
end Vg.G3
