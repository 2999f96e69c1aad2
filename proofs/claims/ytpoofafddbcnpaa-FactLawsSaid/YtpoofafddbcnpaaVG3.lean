import Derived.Test.YtpoofafddbcnpaaVE34
import Derived.Test.YtpoofafddbcnpaaVVgLib
import Derived.Test.YtpoofafddbcnpaaProg
import Derived.KernelRfl
namespace Vg.G3
open Go Lg Go.RowKit
open Go.Proofs
-- gantry/gantkeep4.FactSounds
def gantkeep4_FactSounds_r0 : List LOper := [
  ⟨some 4, none, .mv false (.c (.bool false))⟩]
def gantkeep4_FactSounds_r1 : List LOper := [
  ⟨some 11, none, .mv false (.t 0)⟩,
  ⟨some 12, none, .call false 18 [(.t 11)]⟩,
  ⟨some 13, none, .call false 17 [(.t 12)]⟩,
  ⟨some 14, none, .mv false (.t 1)⟩,
  ⟨some 15, none, .call false 18 [(.t 14)]⟩,
  ⟨some 16, none, .call false 17 [(.t 15)]⟩,
  ⟨some 5, none, .mv false (.t 13)⟩,
  ⟨some 6, none, .mv false (.t 16)⟩]
def gantkeep4_FactSounds_r2 : List LOper := [
  ⟨some 17, none, .mv false (.t 5)⟩,
  ⟨some 18, none, .lenL (.t 17)⟩,
  ⟨some 19, none, .mv false (.c (.int .i64 0))⟩]
def gantkeep4_FactSounds_r3 : List LOper := [
  ⟨some 20, none, .bin .lss (.t 19) (.t 18)⟩]
def gantkeep4_FactSounds_r4 : List LOper := [
  ⟨some 21, none, .indexAddr 3 (.t 17) (.t 19)⟩,
  ⟨some 22, none, .load false true 3 (.t 21)⟩,
  ⟨some 8, none, .alloc [.int .i64 0, .int .i64 0, .int .i64 0]⟩,
  ⟨none, none, .store 3 (.t 8) (.t 22)⟩]
def gantkeep4_FactSounds_r5 : List LOper := [
  ⟨some 23, none, .load false true 3 (.t 8)⟩,
  ⟨some 24, none, .load false true 3 (.t 8)⟩,
  ⟨some 25, none, .call false 19 [(.t 23), (.t 24)]⟩]
def gantkeep4_FactSounds_r6 : List LOper := [
  ⟨some 4, none, .mv false (.c (.bool false))⟩]
def gantkeep4_FactSounds_r7 : List LOper := [
  ⟨some 26, none, .mv false (.t 6)⟩,
  ⟨some 27, none, .lenL (.t 26)⟩,
  ⟨some 28, none, .mv false (.c (.int .i64 0))⟩]
def gantkeep4_FactSounds_r8 : List LOper := [
  ⟨some 29, none, .bin .lss (.t 28) (.t 27)⟩]
def gantkeep4_FactSounds_r9 : List LOper := [
  ⟨some 30, none, .indexAddr 3 (.t 26) (.t 28)⟩,
  ⟨some 31, none, .load false true 3 (.t 30)⟩,
  ⟨some 10, none, .alloc [.int .i64 0, .int .i64 0, .int .i64 0]⟩,
  ⟨none, none, .store 3 (.t 10) (.t 31)⟩]
def gantkeep4_FactSounds_r10 : List LOper := [
  ⟨some 32, none, .load false true 3 (.t 8)⟩,
  ⟨some 33, none, .load false true 3 (.t 10)⟩,
  ⟨some 34, none, .call true 19 [(.t 32), (.t 33)]⟩,
  ⟨some 35, none, .load false true 3 (.t 10)⟩,
  ⟨some 36, none, .load false true 3 (.t 8)⟩,
  ⟨some 37, none, .call true 19 [(.t 35), (.t 36)]⟩,
  ⟨some 38, none, .eqv true .bool (.t 34) (.t 37)⟩]
theorem gantkeep4_FactSounds_r10_d : drawC [0, 0, 3, 0, 0, 31, 63] [
  ⟨some 32, none, .load false true 3 (.t 8)⟩,
  ⟨some 33, none, .load false true 3 (.t 10)⟩,
  ⟨some 34, none, .call true 19 [(.t 32), (.t 33)]⟩,
  ⟨some 35, none, .load false true 3 (.t 10)⟩,
  ⟨some 36, none, .load false true 3 (.t 8)⟩,
  ⟨some 37, none, .call true 19 [(.t 35), (.t 36)]⟩,
  ⟨some 38, none, .eqv true .bool (.t 34) (.t 37)⟩] = true := by kernel_rfl
def gantkeep4_FactSounds_r11 : List LOper := [
  ⟨some 4, none, .mv false (.c (.bool false))⟩]
def gantkeep4_FactSounds_r12 : List LOper := [
  ⟨some 39, none, .bin .add (.t 28) (.c (.int .i64 1))⟩,
  ⟨some 28, none, .mv false (.t 39)⟩]
def gantkeep4_FactSounds_b1 : LCode := (.seq (.ops gantkeep4_FactSounds_r8) (.seq (.cond (.t 29) .skip (.exit 2)) (.seq (.block 3 (.seq (.ops gantkeep4_FactSounds_r9) (.seq (.dops [0, 0, 3, 0, 0, 31, 63] gantkeep4_FactSounds_r10) (.cond (.t 38) (.seq (.ops gantkeep4_FactSounds_r11) .ret) .skip)))) (.ops gantkeep4_FactSounds_r12))))
def gantkeep4_FactSounds_r13 : List LOper := [
  ⟨some 40, none, .bin .add (.t 19) (.c (.int .i64 1))⟩,
  ⟨some 19, none, .mv false (.t 40)⟩]
def gantkeep4_FactSounds_b0 : LCode := (.seq (.ops gantkeep4_FactSounds_r3) (.seq (.cond (.t 20) .skip (.exit 0)) (.seq (.block 1 (.seq (.ops gantkeep4_FactSounds_r4) (.seq (.seq (.ops gantkeep4_FactSounds_r5) (.cond (.t 25) (.seq (.ops gantkeep4_FactSounds_r6) .ret) .skip)) (.seq (.ops gantkeep4_FactSounds_r7) (.block 2 (.loop [5, 6, 8, 17, 18, 19, 26, 27, 28] gantkeep4_FactSounds_b1)))))) (.ops gantkeep4_FactSounds_r13))))
def gantkeep4_FactSounds_r14 : List LOper := [
  ⟨some 41, none, .call false 20 []⟩,
  ⟨some 42, none, .un .not (.t 41)⟩]
def gantkeep4_FactSounds_r15 : List LOper := [
  ⟨some 4, none, .mv false (.c (.bool false))⟩]
def gantkeep4_FactSounds_r16 : List LOper := [
  ⟨some 43, none, .mv false (.t 5)⟩,
  ⟨some 44, none, .mv false (.t 6)⟩,
  ⟨some 45, none, .call false 22 [(.t 43), (.t 44)]⟩,
  ⟨some 46, none, .call false 21 [(.t 45)]⟩,
  ⟨some 47, none, .un .not (.t 46)⟩,
  ⟨some 48, none, .mv false (.t 47)⟩,
  ⟨some 49, some (48, false), .mv false (.t 5)⟩,
  ⟨some 50, some (48, false), .call false 21 [(.t 49)]⟩,
  ⟨some 51, some (48, false), .mv false (.t 50)⟩,
  ⟨some 52, some (51, true), .mv false (.t 5)⟩,
  ⟨some 53, some (51, true), .mv false (.t 6)⟩,
  ⟨some 54, some (51, true), .call false 23 [(.t 52), (.t 53)]⟩,
  ⟨some 55, some (51, true), .call false 21 [(.t 54)]⟩,
  ⟨some 56, some (48, false), .pick (.t 51) (.t 55) (.c (.bool false))⟩,
  ⟨some 57, some (48, false), .mv false (.t 56)⟩,
  ⟨some 58, some (57, true), .mv false (.t 6)⟩,
  ⟨some 59, some (57, true), .mv false (.t 5)⟩,
  ⟨some 60, some (57, true), .call false 24 [(.t 58), (.t 59)]⟩,
  ⟨some 61, some (57, true), .call false 21 [(.t 60)]⟩,
  ⟨some 62, some (48, false), .pick (.t 57) (.t 61) (.c (.bool false))⟩,
  ⟨some 63, none, .pick (.t 48) (.c (.bool true)) (.t 62)⟩,
  ⟨some 4, none, .mv false (.t 63)⟩]
def gantkeep4_FactSounds_f : LFunc := ⟨64, 2, [.tmp 4], (.seq (.ops gantkeep4_FactSounds_r0) (.seq (.ops gantkeep4_FactSounds_r1) (.seq (.seq (.ops gantkeep4_FactSounds_r2) (.block 0 (.loop [5, 6, 17, 18, 19] gantkeep4_FactSounds_b0))) (.seq (.seq (.ops gantkeep4_FactSounds_r14) (.cond (.t 42) (.seq (.ops gantkeep4_FactSounds_r15) .ret) .skip)) (.seq (.ops gantkeep4_FactSounds_r16) .ret)))))⟩
def gantkeep4_FactSounds_v : VFunc := ⟨gantkeep4_FactSounds_f, true, false, false⟩
theorem gantkeep4_FactSounds_ok : preFunc Try.prog ⟨[], [], [34, 37]⟩ Try.f4 [[5, 6, 17, 18, 19], [5, 6, 8, 17, 18, 19, 26, 27, 28]] = some gantkeep4_FactSounds_f := by kernel_rfl

-- gantry/gantkeep4.FactLaws
def gantkeep4_FactLaws_r0 : List LOper := [
  ⟨some 6, none, .mv false (.c (.bool false))⟩]
def gantkeep4_FactLaws_r1 : List LOper := [
  ⟨some 11, none, .mv false (.t 0)⟩,
  ⟨some 12, none, .call false 18 [(.t 11)]⟩,
  ⟨some 13, none, .call false 17 [(.t 12)]⟩,
  ⟨some 14, none, .mv false (.t 1)⟩,
  ⟨some 15, none, .call false 18 [(.t 14)]⟩,
  ⟨some 16, none, .call false 17 [(.t 15)]⟩,
  ⟨some 17, none, .mv false (.t 2)⟩,
  ⟨some 18, none, .call false 18 [(.t 17)]⟩,
  ⟨some 19, none, .call false 17 [(.t 18)]⟩,
  ⟨some 7, none, .mv false (.t 13)⟩,
  ⟨some 8, none, .mv false (.t 16)⟩,
  ⟨some 9, none, .mv false (.t 19)⟩]
def gantkeep4_FactLaws_r2 : List LOper := [
  ⟨some 10, none, .mv false (.c (.func 25 []))⟩]
def gantkeep4_FactLaws_r3 : List LOper := [
  ⟨some 20, none, .call false 20 []⟩,
  ⟨some 21, none, .mv false (.t 20)⟩,
  ⟨some 22, some (21, true), .mv false (.t 7)⟩,
  ⟨some 23, some (21, true), .call false 27 [(.t 22)]⟩,
  ⟨some 24, none, .pick (.t 21) (.t 23) (.c (.bool false))⟩,
  ⟨some 25, none, .mv false (.t 24)⟩,
  ⟨some 26, some (25, true), .mv false (.t 10)⟩,
  ⟨some 27, some (25, true), .mv false (.t 7)⟩,
  ⟨some 28, some (25, true), .call false 17 [(.t 27)]⟩,
  ⟨some 29, some (25, true), .mv false (.t 7)⟩,
  ⟨some 30, some (25, true), .callv (.t 26) [(.t 28), (.t 29)]⟩,
  ⟨some 31, none, .pick (.t 25) (.t 30) (.c (.bool false))⟩,
  ⟨some 32, none, .mv false (.t 31)⟩,
  ⟨some 33, some (32, true), .mv false (.t 10)⟩,
  ⟨some 34, some (32, true), .mv false (.t 7)⟩,
  ⟨some 35, some (32, true), .mv false (.t 8)⟩,
  ⟨some 36, some (32, true), .call false 22 [(.t 34), (.t 35)]⟩,
  ⟨some 37, some (32, true), .mv false (.t 8)⟩,
  ⟨some 38, some (32, true), .mv false (.t 7)⟩,
  ⟨some 39, some (32, true), .call false 22 [(.t 37), (.t 38)]⟩,
  ⟨some 40, some (32, true), .callv (.t 33) [(.t 36), (.t 39)]⟩,
  ⟨some 41, none, .pick (.t 32) (.t 40) (.c (.bool false))⟩,
  ⟨some 42, none, .mv false (.t 41)⟩,
  ⟨some 43, some (42, true), .mv false (.t 10)⟩,
  ⟨some 44, some (42, true), .mv false (.t 7)⟩,
  ⟨some 45, some (42, true), .mv false (.t 8)⟩,
  ⟨some 46, some (42, true), .call false 23 [(.t 44), (.t 45)]⟩,
  ⟨some 47, some (42, true), .mv false (.t 8)⟩,
  ⟨some 48, some (42, true), .mv false (.t 7)⟩,
  ⟨some 49, some (42, true), .call false 23 [(.t 47), (.t 48)]⟩,
  ⟨some 50, some (42, true), .callv (.t 43) [(.t 46), (.t 49)]⟩,
  ⟨some 51, none, .pick (.t 42) (.t 50) (.c (.bool false))⟩,
  ⟨some 52, none, .mv false (.t 51)⟩,
  ⟨some 53, some (52, true), .mv false (.t 10)⟩,
  ⟨some 54, some (52, true), .mv false (.t 7)⟩,
  ⟨some 55, some (52, true), .mv false (.t 8)⟩,
  ⟨some 56, some (52, true), .mv false (.t 9)⟩,
  ⟨some 57, some (52, true), .call false 22 [(.t 55), (.t 56)]⟩,
  ⟨some 58, some (52, true), .call false 23 [(.t 54), (.t 57)]⟩,
  ⟨some 59, some (52, true), .mv false (.t 7)⟩,
  ⟨some 60, some (52, true), .mv false (.t 8)⟩,
  ⟨some 61, some (52, true), .call false 23 [(.t 59), (.t 60)]⟩,
  ⟨some 62, some (52, true), .mv false (.t 7)⟩,
  ⟨some 63, some (52, true), .mv false (.t 9)⟩,
  ⟨some 64, some (52, true), .call false 23 [(.t 62), (.t 63)]⟩,
  ⟨some 65, some (52, true), .call false 22 [(.t 61), (.t 64)]⟩,
  ⟨some 66, some (52, true), .callv (.t 53) [(.t 58), (.t 65)]⟩,
  ⟨some 67, none, .pick (.t 52) (.t 66) (.c (.bool false))⟩,
  ⟨some 68, none, .mv false (.t 67)⟩,
  ⟨some 69, some (68, true), .mv false (.t 10)⟩,
  ⟨some 70, some (68, true), .mv false (.t 7)⟩,
  ⟨some 71, some (68, true), .mv false (.t 8)⟩,
  ⟨some 72, some (68, true), .mv false (.t 9)⟩,
  ⟨some 73, some (68, true), .call false 22 [(.t 71), (.t 72)]⟩,
  ⟨some 74, some (68, true), .call false 24 [(.t 70), (.t 73)]⟩,
  ⟨some 75, some (68, true), .mv false (.t 7)⟩,
  ⟨some 76, some (68, true), .mv false (.t 8)⟩,
  ⟨some 77, some (68, true), .call false 24 [(.t 75), (.t 76)]⟩,
  ⟨some 78, some (68, true), .mv false (.t 7)⟩,
  ⟨some 79, some (68, true), .mv false (.t 9)⟩,
  ⟨some 80, some (68, true), .call false 24 [(.t 78), (.t 79)]⟩,
  ⟨some 81, some (68, true), .call false 23 [(.t 77), (.t 80)]⟩,
  ⟨some 82, some (68, true), .callv (.t 69) [(.t 74), (.t 81)]⟩,
  ⟨some 83, none, .pick (.t 68) (.t 82) (.c (.bool false))⟩,
  ⟨some 84, none, .mv false (.t 83)⟩,
  ⟨some 85, some (84, true), .mv false (.t 10)⟩,
  ⟨some 86, some (84, true), .mv false (.t 7)⟩,
  ⟨some 87, some (84, true), .mv false (.t 8)⟩,
  ⟨some 88, some (84, true), .call false 24 [(.t 86), (.t 87)]⟩,
  ⟨some 89, some (84, true), .mv false (.t 7)⟩,
  ⟨some 90, some (84, true), .mv false (.t 8)⟩,
  ⟨some 91, some (84, true), .call false 23 [(.t 89), (.t 90)]⟩,
  ⟨some 92, some (84, true), .call false 22 [(.t 88), (.t 91)]⟩,
  ⟨some 93, some (84, true), .mv false (.t 7)⟩,
  ⟨some 94, some (84, true), .callv (.t 85) [(.t 92), (.t 93)]⟩,
  ⟨some 95, none, .pick (.t 84) (.t 94) (.c (.bool false))⟩,
  ⟨some 96, none, .mv false (.t 95)⟩,
  ⟨some 97, some (96, true), .mv false (.t 7)⟩,
  ⟨some 98, some (96, true), .mv false (.t 8)⟩,
  ⟨some 99, some (96, true), .call false 28 [(.t 97), (.t 98)]⟩,
  ⟨some 100, some (96, true), .mv false (.t 10)⟩,
  ⟨some 101, some (96, true), .mv false (.t 7)⟩,
  ⟨some 102, some (96, true), .mv false (.t 8)⟩,
  ⟨some 103, some (96, true), .call false 22 [(.t 101), (.t 102)]⟩,
  ⟨some 104, some (96, true), .mv false (.t 8)⟩,
  ⟨some 105, some (96, true), .callv (.t 100) [(.t 103), (.t 104)]⟩,
  ⟨some 106, some (96, true), .eqv false .bool (.t 99) (.t 105)⟩,
  ⟨some 107, none, .pick (.t 96) (.t 106) (.c (.bool false))⟩,
  ⟨some 108, none, .mv false (.t 107)⟩,
  ⟨some 109, some (108, true), .mv false (.t 10)⟩,
  ⟨some 110, some (108, true), .mv false (.t 7)⟩,
  ⟨some 111, some (108, true), .call false 29 [(.t 110), (.c (.nilslice)), (.c (.nilslice))]⟩,
  ⟨some 112, some (108, true), .mv false (.t 7)⟩,
  ⟨some 113, some (108, true), .callv (.t 109) [(.t 111), (.t 112)]⟩,
  ⟨some 114, none, .pick (.t 108) (.t 113) (.c (.bool false))⟩,
  ⟨some 6, none, .mv false (.t 114)⟩]
def gantkeep4_FactLaws_f : LFunc := ⟨115, 3, [.tmp 6], (.seq (.ops gantkeep4_FactLaws_r0) (.seq (.ops gantkeep4_FactLaws_r1) (.seq (.ops gantkeep4_FactLaws_r2) (.seq (.ops gantkeep4_FactLaws_r3) .ret))))⟩
def gantkeep4_FactLaws_v : VFunc := ⟨gantkeep4_FactLaws_f, true, false, false⟩
theorem gantkeep4_FactLaws_ok : preFunc Try.prog ⟨[], [], []⟩ Try.f5 [] = some gantkeep4_FactLaws_f := by kernel_rfl

-- gantry/fact.Of
def fact_Of_r0 : List LOper := [
  ⟨some 2, none, .mv false (.c (.nilslice))⟩]
def fact_Of_r1 : List LOper := [
  ⟨some 3, none, .mv false (.c (.nilslice))⟩]
def fact_Of_r2 : List LOper := [
  ⟨some 6, none, .mv false (.t 0)⟩,
  ⟨some 7, none, .lenL (.t 6)⟩,
  ⟨some 8, none, .mv false (.c (.int .i64 0))⟩]
def fact_Of_r3 : List LOper := [
  ⟨some 9, none, .bin .lss (.t 8) (.t 7)⟩]
def fact_Of_r4 : List LOper := [
  ⟨some 10, none, .indexAddr 3 (.t 6) (.t 8)⟩,
  ⟨some 11, none, .load false true 3 (.t 10)⟩,
  ⟨some 5, none, .alloc [.int .i64 0, .int .i64 0, .int .i64 0]⟩,
  ⟨none, none, .store 3 (.t 5) (.t 11)⟩]
def fact_Of_r5 : List LOper := [
  ⟨some 12, none, .load false true 3 (.t 5)⟩,
  ⟨some 13, none, .call false 52 [(.t 12)]⟩]
def fact_Of_r6 : List LOper := [
  ⟨some 14, none, .mv false (.t 3)⟩,
  ⟨some 15, none, .load false true 3 (.t 5)⟩,
  ⟨some 16, none, .bslice false 1 3 [.int .i64 0, .int .i64 0, .int .i64 0] [(0, 3, (.t 15))]⟩,
  ⟨some 17, none, .append false 3 24 (.t 14) (.t 16)⟩,
  ⟨some 3, none, .mv false (.t 17)⟩]
def fact_Of_r7 : List LOper := [
  ⟨some 18, none, .bin .add (.t 8) (.c (.int .i64 1))⟩,
  ⟨some 8, none, .mv false (.t 18)⟩]
def fact_Of_b0 : LCode := (.seq (.ops fact_Of_r3) (.seq (.cond (.t 9) .skip (.exit 0)) (.seq (.block 1 (.seq (.ops fact_Of_r4) (.seq (.ops fact_Of_r5) (.cond (.t 13) (.ops fact_Of_r6) .skip)))) (.ops fact_Of_r7))))
def fact_Of_r8 : List LOper := [
  ⟨some 19, none, .mv false (.t 3)⟩,
  ⟨some 20, none, .call false 53 [(.t 19), (.c (.func 54 []))]⟩]
def fact_Of_r9 : List LOper := [
  ⟨some 21, none, .mv false (.t 3)⟩,
  ⟨some 22, none, .call false 55 [(.t 21)]⟩,
  ⟨some 2, none, .mv false (.t 22)⟩]
def fact_Of_f : LFunc := ⟨23, 1, [.tmp 2], (.seq (.ops fact_Of_r0) (.seq (.ops fact_Of_r1) (.seq (.seq (.ops fact_Of_r2) (.block 0 (.loop [3, 6, 7, 8] fact_Of_b0))) (.seq (.ops fact_Of_r8) (.seq (.ops fact_Of_r9) .ret)))))⟩
def fact_Of_v : VFunc := ⟨fact_Of_f, true, false, false⟩
theorem fact_Of_ok : preFunc Try.prog ⟨[], [17], []⟩ Try.f17 [[3, 6, 7, 8]] = some fact_Of_f := by kernel_rfl

-- gantry/gantkeep4.Facts
def gantkeep4_Facts_r0 : List LOper := [
  ⟨some 2, none, .mv false (.c (.nilslice))⟩]
def gantkeep4_Facts_r1 : List LOper := [
  ⟨some 6, none, .mv false (.t 0)⟩,
  ⟨some 7, none, .build [.nilslice] [(0, 1, (.t 6))]⟩,
  ⟨some 8, none, .box (.t 7)⟩,
  ⟨some 3, none, .mv false (.t 8)⟩]
def gantkeep4_Facts_r2 : List LOper := [
  ⟨some 4, none, .mv true (.c (.nilslice))⟩]
def gantkeep4_Facts_r3 : List LOper := [
  ⟨some 9, none, .mv false (.t 3)⟩,
  ⟨some 10, none, .call false 41 [(.t 9), (.c (.int .i64 9))]⟩,
  ⟨some 11, none, .mv false (.c (.int .i64 0))⟩]
def gantkeep4_Facts_r4 : List LOper := [
  ⟨some 12, none, .bin .lss (.t 11) (.t 10)⟩]
def gantkeep4_Facts_r5 : List LOper := [
  ⟨some 13, none, .mv false (.t 3)⟩,
  ⟨some 14, none, .call false 41 [(.t 13), (.c (.int .i64 6))]⟩,
  ⟨some 15, none, .bin .add (.c (.int .i64 1)) (.t 14)⟩,
  ⟨some 16, none, .build [.int .i64 0, .int .i64 0, .int .i64 0] [(0, 1, (.t 15))]⟩,
  ⟨some 5, none, .alloc [.int .i64 0, .int .i64 0, .int .i64 0]⟩,
  ⟨none, none, .store 3 (.t 5) (.t 16)⟩]
def gantkeep4_Facts_r6 : List LOper := [
  ⟨some 17, none, .fieldAddr 0 (.t 5)⟩,
  ⟨some 18, none, .load false false 1 (.t 17)⟩]
def gantkeep4_Facts_r7 : List LOper := [
  ⟨some 23, none, .bin .eql (.t 18) (.c (.int .i64 1))⟩,
  ⟨some 22, none, .mv false (.t 23)⟩]
def gantkeep4_Facts_r8 : List LOper := [
  ⟨some 24, none, .mv false (.t 3)⟩,
  ⟨some 25, none, .call false 41 [(.t 24), (.c (.int .i64 3))]⟩,
  ⟨some 26, none, .mv false (.t 3)⟩,
  ⟨some 27, none, .call false 41 [(.t 26), (.c (.int .i64 3))]⟩,
  ⟨some 28, none, .fieldAddr 1 (.t 5)⟩,
  ⟨none, none, .store 1 (.t 28) (.t 25)⟩,
  ⟨some 29, none, .fieldAddr 2 (.t 5)⟩,
  ⟨none, none, .store 1 (.t 29) (.t 27)⟩]
def gantkeep4_Facts_r9 : List LOper := [
  ⟨some 31, none, .bin .eql (.t 18) (.c (.int .i64 2))⟩,
  ⟨some 30, none, .mv false (.t 31)⟩]
def gantkeep4_Facts_r10 : List LOper := [
  ⟨some 32, none, .mv false (.t 3)⟩,
  ⟨some 33, none, .call false 41 [(.t 32), (.c (.int .i64 3))]⟩,
  ⟨some 34, none, .mv false (.t 3)⟩,
  ⟨some 35, none, .call false 41 [(.t 34), (.c (.int .i64 3))]⟩,
  ⟨some 36, none, .fieldAddr 1 (.t 5)⟩,
  ⟨none, none, .store 1 (.t 36) (.t 33)⟩,
  ⟨some 37, none, .fieldAddr 2 (.t 5)⟩,
  ⟨none, none, .store 1 (.t 37) (.t 35)⟩]
def gantkeep4_Facts_r11 : List LOper := [
  ⟨some 39, none, .bin .eql (.t 18) (.c (.int .i64 6))⟩,
  ⟨some 38, none, .mv false (.t 39)⟩]
def gantkeep4_Facts_r12 : List LOper := [
  ⟨some 40, none, .mv false (.t 3)⟩,
  ⟨some 41, none, .call false 41 [(.t 40), (.c (.int .i64 3))]⟩,
  ⟨some 42, none, .mv false (.t 3)⟩,
  ⟨some 43, none, .call false 41 [(.t 42), (.c (.int .i64 10))]⟩,
  ⟨some 44, none, .fieldAddr 1 (.t 5)⟩,
  ⟨none, none, .store 1 (.t 44) (.t 41)⟩,
  ⟨some 45, none, .fieldAddr 2 (.t 5)⟩,
  ⟨none, none, .store 1 (.t 45) (.t 43)⟩]
def gantkeep4_Facts_r13 : List LOper := [
  ⟨some 19, none, .mv false (.t 3)⟩,
  ⟨some 20, none, .call false 41 [(.t 19), (.c (.int .i64 4))]⟩,
  ⟨some 21, none, .fieldAddr 1 (.t 5)⟩,
  ⟨none, none, .store 1 (.t 21) (.t 20)⟩]
def gantkeep4_Facts_r14 : List LOper := [
  ⟨some 46, none, .mv true (.t 4)⟩,
  ⟨some 47, none, .load false true 3 (.t 5)⟩,
  ⟨some 48, none, .bslice false 1 3 [.int .i64 0, .int .i64 0, .int .i64 0] [(0, 3, (.t 47))]⟩,
  ⟨some 49, none, .append true 3 24 (.t 46) (.t 48)⟩,
  ⟨some 4, none, .mv true (.t 49)⟩]
def gantkeep4_Facts_r15 : List LOper := [
  ⟨some 50, none, .bin .add (.t 11) (.c (.int .i64 1))⟩,
  ⟨some 11, none, .mv false (.t 50)⟩]
def gantkeep4_Facts_b0 : LCode := (.seq (.ops gantkeep4_Facts_r4) (.seq (.cond (.t 12) .skip (.exit 0)) (.seq (.block 1 (.seq (.ops gantkeep4_Facts_r5) (.seq (.seq (.ops gantkeep4_Facts_r6) (.block 2 (.seq (.ops gantkeep4_Facts_r7) (.cond (.t 22) (.ops gantkeep4_Facts_r8) (.seq (.ops gantkeep4_Facts_r9) (.cond (.t 30) (.ops gantkeep4_Facts_r10) (.seq (.ops gantkeep4_Facts_r11) (.cond (.t 38) (.ops gantkeep4_Facts_r12) (.ops gantkeep4_Facts_r13))))))))) (.ops gantkeep4_Facts_r14)))) (.ops gantkeep4_Facts_r15))))
def gantkeep4_Facts_r16 : List LOper := [
  ⟨some 51, none, .mv false (.t 4)⟩,
  ⟨some 2, none, .mv false (.t 51)⟩]
def gantkeep4_Facts_f : LFunc := ⟨52, 1, [.tmp 2], (.seq (.ops gantkeep4_Facts_r0) (.seq (.ops gantkeep4_Facts_r1) (.seq (.ops gantkeep4_Facts_r2) (.seq (.seq (.ops gantkeep4_Facts_r3) (.block 0 (.loop [3, 4, 10, 11] gantkeep4_Facts_b0))) (.seq (.ops gantkeep4_Facts_r16) .ret)))))⟩
def gantkeep4_Facts_v : VFunc := ⟨gantkeep4_Facts_f, true, false, false⟩
theorem gantkeep4_Facts_ok : preFunc Try.prog ⟨[4, 46, 49], [], []⟩ Try.f18 [[3, 4, 10, 11]] = some gantkeep4_Facts_f := by kernel_rfl

-- gantry/fact.Clash
def fact_Clash_r0 : List LOper := [
  ⟨some 2, none, .box (.t 0)⟩,
  ⟨some 3, none, .box (.t 1)⟩,
  ⟨some 4, none, .mv false (.c (.bool false))⟩]
def fact_Clash_r1 : List LOper := [
  ⟨some 5, none, .load false true 3 (.t 2)⟩,
  ⟨some 6, none, .call false 52 [(.t 5)]⟩,
  ⟨some 7, none, .un .not (.t 6)⟩,
  ⟨some 8, none, .mv false (.t 7)⟩,
  ⟨some 9, some (8, false), .load false true 3 (.t 3)⟩,
  ⟨some 10, some (8, false), .call false 52 [(.t 9)]⟩,
  ⟨some 11, some (8, false), .un .not (.t 10)⟩,
  ⟨some 12, none, .pick (.t 8) (.c (.bool true)) (.t 11)⟩,
  ⟨some 13, none, .mv false (.t 12)⟩,
  ⟨some 14, some (13, false), .load false true 3 (.t 2)⟩,
  ⟨some 15, some (13, false), .load false true 3 (.t 3)⟩,
  ⟨some 16, some (13, false), .eqv false (.struct [.i, .i, .i]) (.t 14) (.t 15)⟩,
  ⟨some 17, none, .pick (.t 13) (.c (.bool true)) (.t 16)⟩]
def fact_Clash_r2 : List LOper := [
  ⟨some 4, none, .mv false (.c (.bool false))⟩]
def fact_Clash_r3 : List LOper := [
  ⟨some 18, none, .fieldAddr 0 (.t 2)⟩,
  ⟨some 19, none, .load false false 1 (.t 18)⟩,
  ⟨some 20, none, .fieldAddr 0 (.t 3)⟩,
  ⟨some 21, none, .load false false 1 (.t 20)⟩,
  ⟨some 22, none, .bin .gtr (.t 19) (.t 21)⟩]
def fact_Clash_r4 : List LOper := [
  ⟨some 23, none, .load false true 3 (.t 3)⟩,
  ⟨some 24, none, .load false true 3 (.t 2)⟩,
  ⟨none, none, .store 3 (.t 2) (.t 23)⟩,
  ⟨none, none, .store 3 (.t 3) (.t 24)⟩]
def fact_Clash_r5 : List LOper := [
  ⟨some 26, none, .fieldAddr 0 (.t 2)⟩,
  ⟨some 27, none, .load false false 1 (.t 26)⟩,
  ⟨some 28, none, .bin .eql (.t 27) (.c (.int .i64 1))⟩,
  ⟨some 29, none, .mv false (.t 28)⟩,
  ⟨some 30, some (29, true), .fieldAddr 0 (.t 3)⟩,
  ⟨some 31, some (29, true), .load false false 1 (.t 30)⟩,
  ⟨some 32, some (29, true), .bin .eql (.t 31) (.c (.int .i64 1))⟩,
  ⟨some 33, none, .pick (.t 29) (.t 32) (.c (.bool false))⟩,
  ⟨some 25, none, .mv false (.t 33)⟩]
def fact_Clash_r6 : List LOper := [
  ⟨some 34, none, .fieldAddr 0 (.t 2)⟩,
  ⟨some 35, none, .load false false 1 (.t 34)⟩,
  ⟨some 36, none, .bin .eql (.t 35) (.c (.int .i64 2))⟩,
  ⟨some 37, none, .mv false (.t 36)⟩,
  ⟨some 38, some (37, true), .fieldAddr 0 (.t 3)⟩,
  ⟨some 39, some (37, true), .load false false 1 (.t 38)⟩,
  ⟨some 40, some (37, true), .bin .eql (.t 39) (.c (.int .i64 2))⟩,
  ⟨some 41, none, .pick (.t 37) (.t 40) (.c (.bool false))⟩,
  ⟨some 25, none, .mv false (.t 41)⟩]
def fact_Clash_r7 : List LOper := [
  ⟨some 42, none, .fieldAddr 0 (.t 2)⟩,
  ⟨some 43, none, .load false false 1 (.t 42)⟩,
  ⟨some 44, none, .bin .eql (.t 43) (.c (.int .i64 6))⟩,
  ⟨some 45, none, .mv false (.t 44)⟩,
  ⟨some 46, some (45, true), .fieldAddr 0 (.t 3)⟩,
  ⟨some 47, some (45, true), .load false false 1 (.t 46)⟩,
  ⟨some 48, some (45, true), .bin .eql (.t 47) (.c (.int .i64 6))⟩,
  ⟨some 49, none, .pick (.t 45) (.t 48) (.c (.bool false))⟩,
  ⟨some 25, none, .mv false (.t 49)⟩]
def fact_Clash_r8 : List LOper := [
  ⟨some 50, none, .fieldAddr 1 (.t 2)⟩,
  ⟨some 51, none, .load false false 1 (.t 50)⟩,
  ⟨some 52, none, .fieldAddr 1 (.t 3)⟩,
  ⟨some 53, none, .load false false 1 (.t 52)⟩,
  ⟨some 54, none, .bin .eql (.t 51) (.t 53)⟩,
  ⟨some 55, none, .mv false (.t 54)⟩,
  ⟨some 56, some (55, false), .fieldAddr 2 (.t 2)⟩,
  ⟨some 57, some (55, false), .load false false 1 (.t 56)⟩,
  ⟨some 58, some (55, false), .fieldAddr 2 (.t 3)⟩,
  ⟨some 59, some (55, false), .load false false 1 (.t 58)⟩,
  ⟨some 60, some (55, false), .bin .eql (.t 57) (.t 59)⟩,
  ⟨some 61, none, .pick (.t 55) (.c (.bool true)) (.t 60)⟩,
  ⟨some 4, none, .mv false (.t 61)⟩]
def fact_Clash_r9 : List LOper := [
  ⟨some 63, none, .fieldAddr 0 (.t 2)⟩,
  ⟨some 64, none, .load false false 1 (.t 63)⟩,
  ⟨some 65, none, .bin .eql (.t 64) (.c (.int .i64 1))⟩,
  ⟨some 66, none, .mv false (.t 65)⟩,
  ⟨some 67, some (66, true), .fieldAddr 0 (.t 3)⟩,
  ⟨some 68, some (66, true), .load false false 1 (.t 67)⟩,
  ⟨some 69, some (66, true), .bin .eql (.t 68) (.c (.int .i64 2))⟩,
  ⟨some 70, none, .pick (.t 66) (.t 69) (.c (.bool false))⟩,
  ⟨some 62, none, .mv false (.t 70)⟩]
def fact_Clash_r10 : List LOper := [
  ⟨some 71, none, .fieldAddr 1 (.t 2)⟩,
  ⟨some 72, none, .load false false 1 (.t 71)⟩,
  ⟨some 73, none, .fieldAddr 2 (.t 3)⟩,
  ⟨some 74, none, .load false false 1 (.t 73)⟩,
  ⟨some 75, none, .bin .eql (.t 72) (.t 74)⟩,
  ⟨some 4, none, .mv false (.t 75)⟩]
def fact_Clash_r11 : List LOper := [
  ⟨some 77, none, .fieldAddr 0 (.t 2)⟩,
  ⟨some 78, none, .load false false 1 (.t 77)⟩,
  ⟨some 79, none, .bin .eql (.t 78) (.c (.int .i64 1))⟩,
  ⟨some 80, none, .mv false (.t 79)⟩,
  ⟨some 81, some (80, true), .fieldAddr 0 (.t 3)⟩,
  ⟨some 82, some (80, true), .load false false 1 (.t 81)⟩,
  ⟨some 83, some (80, true), .bin .eql (.t 82) (.c (.int .i64 4))⟩,
  ⟨some 84, none, .pick (.t 80) (.t 83) (.c (.bool false))⟩,
  ⟨some 76, none, .mv false (.t 84)⟩]
def fact_Clash_r12 : List LOper := [
  ⟨some 85, none, .fieldAddr 2 (.t 2)⟩,
  ⟨some 86, none, .load false false 1 (.t 85)⟩,
  ⟨some 87, none, .fieldAddr 1 (.t 3)⟩,
  ⟨some 88, none, .load false false 1 (.t 87)⟩,
  ⟨some 89, none, .bin .eql (.t 86) (.t 88)⟩,
  ⟨some 4, none, .mv false (.t 89)⟩]
def fact_Clash_r13 : List LOper := [
  ⟨some 91, none, .fieldAddr 0 (.t 2)⟩,
  ⟨some 92, none, .load false false 1 (.t 91)⟩,
  ⟨some 93, none, .bin .eql (.t 92) (.c (.int .i64 2))⟩,
  ⟨some 94, none, .mv false (.t 93)⟩,
  ⟨some 95, some (94, true), .fieldAddr 0 (.t 3)⟩,
  ⟨some 96, some (94, true), .load false false 1 (.t 95)⟩,
  ⟨some 97, some (94, true), .bin .eql (.t 96) (.c (.int .i64 3))⟩,
  ⟨some 98, none, .pick (.t 94) (.t 97) (.c (.bool false))⟩,
  ⟨some 90, none, .mv false (.t 98)⟩]
def fact_Clash_r14 : List LOper := [
  ⟨some 99, none, .fieldAddr 1 (.t 2)⟩,
  ⟨some 100, none, .load false false 1 (.t 99)⟩,
  ⟨some 101, none, .fieldAddr 1 (.t 3)⟩,
  ⟨some 102, none, .load false false 1 (.t 101)⟩,
  ⟨some 103, none, .bin .eql (.t 100) (.t 102)⟩,
  ⟨some 4, none, .mv false (.t 103)⟩]
def fact_Clash_r15 : List LOper := [
  ⟨some 4, none, .mv false (.c (.bool false))⟩]
def fact_Clash_f : LFunc := ⟨104, 2, [.tmp 4], (.seq (.ops fact_Clash_r0) (.seq (.seq (.ops fact_Clash_r1) (.cond (.t 17) (.seq (.ops fact_Clash_r2) .ret) .skip)) (.seq (.seq (.ops fact_Clash_r3) (.cond (.t 22) (.ops fact_Clash_r4) .skip)) (.seq (.block 0 (.seq (.seq (.ops fact_Clash_r5) (.cond (.t 25) .skip (.seq (.ops fact_Clash_r6) (.cond (.t 25) .skip (.ops fact_Clash_r7))))) (.cond (.t 25) (.seq (.ops fact_Clash_r8) .ret) (.seq (.ops fact_Clash_r9) (.cond (.t 62) (.seq (.ops fact_Clash_r10) .ret) (.seq (.ops fact_Clash_r11) (.cond (.t 76) (.seq (.ops fact_Clash_r12) .ret) (.seq (.ops fact_Clash_r13) (.cond (.t 90) (.seq (.ops fact_Clash_r14) .ret) .skip))))))))) (.seq (.ops fact_Clash_r15) .ret)))))⟩
def fact_Clash_v : VFunc := ⟨fact_Clash_f, true, false, false⟩
theorem fact_Clash_ok : preFunc Try.prog ⟨[], [], []⟩ Try.f19 [] = some fact_Clash_f := by kernel_rfl

-- gantry/gantkeep4.facted
def gantkeep4_facted_r0 : List LOper := [
  ⟨some 0, none, .mv false (.c (.bool false))⟩]
def gantkeep4_facted_r1 : List LOper := [
  ⟨some 1, none, .build [.int .i64 0, .int .i64 0, .int .i64 0] [(0, 1, (.c (.int .i64 3)))]⟩,
  ⟨some 2, none, .build [.int .i64 0, .int .i64 0, .int .i64 0] [(0, 1, (.c (.int .i64 2))), (2, 1, (.c (.int .i64 1)))]⟩,
  ⟨some 3, none, .call false 19 [(.t 1), (.t 2)]⟩,
  ⟨some 4, none, .mv false (.t 3)⟩,
  ⟨some 5, some (4, true), .build [.int .i64 0, .int .i64 0, .int .i64 0] [(0, 1, (.c (.int .i64 5)))]⟩,
  ⟨some 6, some (4, true), .bslice false 1 3 [.int .i64 0, .int .i64 0, .int .i64 0] [(0, 3, (.t 5))]⟩,
  ⟨some 7, some (4, true), .build [.int .i64 0, .int .i64 0, .int .i64 0] [(0, 1, (.c (.int .i64 5)))]⟩,
  ⟨some 8, some (4, true), .call false 56 [(.t 6), (.t 7)]⟩,
  ⟨some 9, none, .pick (.t 4) (.t 8) (.c (.bool false))⟩,
  ⟨some 0, none, .mv false (.t 9)⟩]
def gantkeep4_facted_f : LFunc := ⟨10, 0, [.tmp 0], (.seq (.ops gantkeep4_facted_r0) (.seq (.ops gantkeep4_facted_r1) .ret))⟩
def gantkeep4_facted_v : VFunc := ⟨gantkeep4_facted_f, true, false, false⟩
theorem gantkeep4_facted_ok : preFunc Try.prog ⟨[], [], []⟩ Try.f20 [] = some gantkeep4_facted_f := by kernel_rfl

-- gantry/fact.Sound
def fact_Sound_r0 : List LOper := [
  ⟨some 2, none, .mv false (.c (.bool false))⟩]
def fact_Sound_r1 : List LOper := [
  ⟨some 7, none, .mv false (.t 0)⟩,
  ⟨some 8, none, .lenL (.t 7)⟩,
  ⟨some 9, none, .mv false (.c (.int .i64 0))⟩]
def fact_Sound_r2 : List LOper := [
  ⟨some 10, none, .bin .lss (.t 9) (.t 8)⟩]
def fact_Sound_r3 : List LOper := [
  ⟨some 11, none, .mv false (.t 9)⟩,
  ⟨some 12, none, .indexAddr 3 (.t 7) (.t 9)⟩,
  ⟨some 13, none, .load false true 3 (.t 12)⟩,
  ⟨some 4, none, .alloc [.int .i64 0, .int .i64 0, .int .i64 0]⟩,
  ⟨some 3, none, .mv false (.t 11)⟩,
  ⟨none, none, .store 3 (.t 4) (.t 13)⟩]
def fact_Sound_r4 : List LOper := [
  ⟨some 14, none, .mv false (.t 0)⟩,
  ⟨some 15, none, .mv false (.t 3)⟩,
  ⟨some 16, none, .slc 3 (.t 14) none (some (.t 15)) none⟩,
  ⟨some 17, none, .lenL (.t 16)⟩,
  ⟨some 18, none, .mv false (.c (.int .i64 0))⟩]
def fact_Sound_r5 : List LOper := [
  ⟨some 19, none, .bin .lss (.t 18) (.t 17)⟩]
def fact_Sound_r6 : List LOper := [
  ⟨some 20, none, .indexAddr 3 (.t 16) (.t 18)⟩,
  ⟨some 21, none, .load false true 3 (.t 20)⟩,
  ⟨some 6, none, .alloc [.int .i64 0, .int .i64 0, .int .i64 0]⟩,
  ⟨none, none, .store 3 (.t 6) (.t 21)⟩]
def fact_Sound_r7 : List LOper := [
  ⟨some 22, none, .load false true 3 (.t 4)⟩,
  ⟨some 23, none, .load false true 3 (.t 6)⟩,
  ⟨some 24, none, .call false 19 [(.t 22), (.t 23)]⟩]
def fact_Sound_r8 : List LOper := [
  ⟨some 2, none, .mv false (.c (.bool false))⟩]
def fact_Sound_r9 : List LOper := [
  ⟨some 25, none, .bin .add (.t 18) (.c (.int .i64 1))⟩,
  ⟨some 18, none, .mv false (.t 25)⟩]
def fact_Sound_b1 : LCode := (.seq (.ops fact_Sound_r5) (.seq (.cond (.t 19) .skip (.exit 2)) (.seq (.block 3 (.seq (.ops fact_Sound_r6) (.seq (.ops fact_Sound_r7) (.cond (.t 24) (.seq (.ops fact_Sound_r8) .ret) .skip)))) (.ops fact_Sound_r9))))
def fact_Sound_r10 : List LOper := [
  ⟨some 26, none, .bin .add (.t 9) (.c (.int .i64 1))⟩,
  ⟨some 9, none, .mv false (.t 26)⟩]
def fact_Sound_b0 : LCode := (.seq (.ops fact_Sound_r2) (.seq (.cond (.t 10) .skip (.exit 0)) (.seq (.block 1 (.seq (.ops fact_Sound_r3) (.seq (.ops fact_Sound_r4) (.block 2 (.loop [0, 4, 7, 8, 9, 16, 17, 18] fact_Sound_b1))))) (.ops fact_Sound_r10))))
def fact_Sound_r11 : List LOper := [
  ⟨some 2, none, .mv false (.c (.bool true))⟩]
def fact_Sound_f : LFunc := ⟨27, 1, [.tmp 2], (.seq (.ops fact_Sound_r0) (.seq (.seq (.ops fact_Sound_r1) (.block 0 (.loop [0, 7, 8, 9] fact_Sound_b0))) (.seq (.ops fact_Sound_r11) .ret)))⟩
def fact_Sound_v : VFunc := ⟨fact_Sound_f, true, false, false⟩
theorem fact_Sound_ok : preFunc Try.prog ⟨[], [], []⟩ Try.f21 [[0, 7, 8, 9], [0, 4, 7, 8, 9, 16, 17, 18]] = some fact_Sound_f := by kernel_rfl

-- gantry/fact.Join
def fact_Join_r0 : List LOper := [
  ⟨some 4, none, .mv false (.c (.nilslice))⟩]
def fact_Join_r1 : List LOper := [
  ⟨some 5, none, .mv false (.t 0)⟩,
  ⟨some 6, none, .mv false (.t 1)⟩,
  ⟨some 7, none, .bslice false 2 1 [.nilslice, .nilslice] [(0, 1, (.t 5)), (1, 1, (.t 6))]⟩,
  ⟨some 8, none, .call false 40 [(.t 7)]⟩,
  ⟨some 9, none, .call false 17 [(.t 8)]⟩,
  ⟨some 4, none, .mv false (.t 9)⟩]
def fact_Join_f : LFunc := ⟨10, 2, [.tmp 4], (.seq (.ops fact_Join_r0) (.seq (.ops fact_Join_r1) .ret))⟩
def fact_Join_v : VFunc := ⟨fact_Join_f, true, false, false⟩
theorem fact_Join_ok : preFunc Try.prog ⟨[], [], []⟩ Try.f22 [] = some fact_Join_f := by kernel_rfl

-- gantry/fact.Meet
def fact_Meet_r0 : List LOper := [
  ⟨some 4, none, .mv false (.c (.nilslice))⟩]
def fact_Meet_r1 : List LOper := [
  ⟨some 5, none, .mv true (.c (.nilslice))⟩]
def fact_Meet_r2 : List LOper := [
  ⟨some 8, none, .mv false (.t 0)⟩,
  ⟨some 9, none, .lenL (.t 8)⟩,
  ⟨some 10, none, .mv false (.c (.int .i64 0))⟩]
def fact_Meet_r3 : List LOper := [
  ⟨some 11, none, .bin .lss (.t 10) (.t 9)⟩]
def fact_Meet_r4 : List LOper := [
  ⟨some 12, none, .indexAddr 3 (.t 8) (.t 10)⟩,
  ⟨some 13, none, .load false true 3 (.t 12)⟩,
  ⟨some 7, none, .alloc [.int .i64 0, .int .i64 0, .int .i64 0]⟩,
  ⟨none, none, .store 3 (.t 7) (.t 13)⟩]
def fact_Meet_r5 : List LOper := [
  ⟨some 14, none, .mv false (.t 1)⟩,
  ⟨some 15, none, .load false true 3 (.t 7)⟩,
  ⟨some 16, none, .call false 56 [(.t 14), (.t 15)]⟩]
def fact_Meet_r6 : List LOper := [
  ⟨some 17, none, .mv true (.t 5)⟩,
  ⟨some 18, none, .load false true 3 (.t 7)⟩,
  ⟨some 19, none, .bslice false 1 3 [.int .i64 0, .int .i64 0, .int .i64 0] [(0, 3, (.t 18))]⟩,
  ⟨some 20, none, .append true 3 24 (.t 17) (.t 19)⟩,
  ⟨some 5, none, .mv true (.t 20)⟩]
def fact_Meet_r7 : List LOper := [
  ⟨some 21, none, .bin .add (.t 10) (.c (.int .i64 1))⟩,
  ⟨some 10, none, .mv false (.t 21)⟩]
def fact_Meet_b0 : LCode := (.seq (.ops fact_Meet_r3) (.seq (.cond (.t 11) .skip (.exit 0)) (.seq (.block 1 (.seq (.ops fact_Meet_r4) (.seq (.ops fact_Meet_r5) (.cond (.t 16) (.ops fact_Meet_r6) .skip)))) (.ops fact_Meet_r7))))
def fact_Meet_r8 : List LOper := [
  ⟨some 22, none, .mv false (.t 5)⟩,
  ⟨some 23, none, .call false 17 [(.t 22)]⟩,
  ⟨some 4, none, .mv false (.t 23)⟩]
def fact_Meet_f : LFunc := ⟨24, 2, [.tmp 4], (.seq (.ops fact_Meet_r0) (.seq (.ops fact_Meet_r1) (.seq (.seq (.ops fact_Meet_r2) (.block 0 (.loop [1, 5, 8, 9, 10] fact_Meet_b0))) (.seq (.ops fact_Meet_r8) .ret))))⟩
def fact_Meet_v : VFunc := ⟨fact_Meet_f, true, false, false⟩
theorem fact_Meet_ok : preFunc Try.prog ⟨[5, 17, 20], [], []⟩ Try.f23 [[1, 5, 8, 9, 10]] = some fact_Meet_f := by kernel_rfl

-- gantry/fact.Minus
def fact_Minus_r0 : List LOper := [
  ⟨some 4, none, .mv false (.c (.nilslice))⟩]
def fact_Minus_r1 : List LOper := [
  ⟨some 5, none, .mv true (.c (.nilslice))⟩]
def fact_Minus_r2 : List LOper := [
  ⟨some 8, none, .mv false (.t 0)⟩,
  ⟨some 9, none, .lenL (.t 8)⟩,
  ⟨some 10, none, .mv false (.c (.int .i64 0))⟩]
def fact_Minus_r3 : List LOper := [
  ⟨some 11, none, .bin .lss (.t 10) (.t 9)⟩]
def fact_Minus_r4 : List LOper := [
  ⟨some 12, none, .indexAddr 3 (.t 8) (.t 10)⟩,
  ⟨some 13, none, .load false true 3 (.t 12)⟩,
  ⟨some 7, none, .alloc [.int .i64 0, .int .i64 0, .int .i64 0]⟩,
  ⟨none, none, .store 3 (.t 7) (.t 13)⟩]
def fact_Minus_r5 : List LOper := [
  ⟨some 14, none, .mv false (.t 1)⟩,
  ⟨some 15, none, .load false true 3 (.t 7)⟩,
  ⟨some 16, none, .call false 56 [(.t 14), (.t 15)]⟩,
  ⟨some 17, none, .un .not (.t 16)⟩]
def fact_Minus_r6 : List LOper := [
  ⟨some 18, none, .mv true (.t 5)⟩,
  ⟨some 19, none, .load false true 3 (.t 7)⟩,
  ⟨some 20, none, .bslice false 1 3 [.int .i64 0, .int .i64 0, .int .i64 0] [(0, 3, (.t 19))]⟩,
  ⟨some 21, none, .append true 3 24 (.t 18) (.t 20)⟩,
  ⟨some 5, none, .mv true (.t 21)⟩]
def fact_Minus_r7 : List LOper := [
  ⟨some 22, none, .bin .add (.t 10) (.c (.int .i64 1))⟩,
  ⟨some 10, none, .mv false (.t 22)⟩]
def fact_Minus_b0 : LCode := (.seq (.ops fact_Minus_r3) (.seq (.cond (.t 11) .skip (.exit 0)) (.seq (.block 1 (.seq (.ops fact_Minus_r4) (.seq (.ops fact_Minus_r5) (.cond (.t 17) (.ops fact_Minus_r6) .skip)))) (.ops fact_Minus_r7))))
def fact_Minus_r8 : List LOper := [
  ⟨some 23, none, .mv false (.t 5)⟩,
  ⟨some 24, none, .call false 17 [(.t 23)]⟩,
  ⟨some 4, none, .mv false (.t 24)⟩]
def fact_Minus_f : LFunc := ⟨25, 2, [.tmp 4], (.seq (.ops fact_Minus_r0) (.seq (.ops fact_Minus_r1) (.seq (.seq (.ops fact_Minus_r2) (.block 0 (.loop [1, 5, 8, 9, 10] fact_Minus_b0))) (.seq (.ops fact_Minus_r8) .ret))))⟩
def fact_Minus_v : VFunc := ⟨fact_Minus_f, true, false, false⟩
theorem fact_Minus_ok : preFunc Try.prog ⟨[5, 18, 21], [], []⟩ Try.f24 [[1, 5, 8, 9, 10]] = some fact_Minus_f := by kernel_rfl

-- gantry/gantkeep4.FactLaws$1
def gantkeep4_FactLaws_1_r0 : List LOper := [
  ⟨some 4, none, .mv false (.c (.bool false))⟩]
def gantkeep4_FactLaws_1_r1 : List LOper := [
  ⟨some 5, none, .mv false (.t 0)⟩,
  ⟨some 6, none, .mv false (.t 1)⟩,
  ⟨some 7, none, .call false 26 [(.t 5), (.t 6)]⟩,
  ⟨some 4, none, .mv false (.t 7)⟩]
def gantkeep4_FactLaws_1_f : LFunc := ⟨8, 2, [.tmp 4], (.seq (.ops gantkeep4_FactLaws_1_r0) (.seq (.ops gantkeep4_FactLaws_1_r1) .ret))⟩
def gantkeep4_FactLaws_1_v : VFunc := ⟨gantkeep4_FactLaws_1_f, true, false, false⟩
theorem gantkeep4_FactLaws_1_ok : preFunc Try.prog ⟨[], [], []⟩ Try.f25 [] = some gantkeep4_FactLaws_1_f := by kernel_rfl

-- slices.Equal[[]gantry/fact.Fact,gantry/fact.Fact]
def slices_Equal_gantryfactFact_r0 : List LOper := [
  ⟨some 4, none, .mv false (.c (.bool false))⟩]
def slices_Equal_gantryfactFact_r1 : List LOper := [
  ⟨some 6, none, .mv false (.t 0)⟩,
  ⟨some 7, none, .lenL (.t 6)⟩,
  ⟨some 8, none, .mv false (.t 1)⟩,
  ⟨some 9, none, .lenL (.t 8)⟩,
  ⟨some 10, none, .bin .neq (.t 7) (.t 9)⟩]
def slices_Equal_gantryfactFact_r2 : List LOper := [
  ⟨some 4, none, .mv false (.c (.bool false))⟩]
def slices_Equal_gantryfactFact_r3 : List LOper := [
  ⟨some 11, none, .mv false (.t 0)⟩,
  ⟨some 12, none, .lenL (.t 11)⟩,
  ⟨some 13, none, .mv false (.c (.int .i64 0))⟩]
def slices_Equal_gantryfactFact_r4 : List LOper := [
  ⟨some 14, none, .bin .lss (.t 13) (.t 12)⟩]
def slices_Equal_gantryfactFact_r5 : List LOper := [
  ⟨some 15, none, .mv false (.t 13)⟩,
  ⟨some 5, none, .mv false (.t 15)⟩]
def slices_Equal_gantryfactFact_r6 : List LOper := [
  ⟨some 16, none, .mv false (.t 0)⟩,
  ⟨some 17, none, .mv false (.t 5)⟩,
  ⟨some 18, none, .indexAddr 3 (.t 16) (.t 17)⟩,
  ⟨some 19, none, .load false true 3 (.t 18)⟩,
  ⟨some 20, none, .mv false (.t 1)⟩,
  ⟨some 21, none, .mv false (.t 5)⟩,
  ⟨some 22, none, .indexAddr 3 (.t 20) (.t 21)⟩,
  ⟨some 23, none, .load false true 3 (.t 22)⟩,
  ⟨some 24, none, .eqv true (.struct [.i, .i, .i]) (.t 19) (.t 23)⟩]
theorem slices_Equal_gantryfactFact_r6_d : drawC [0, 0, 3, 7, 0, 0, 48, 112, 255] [
  ⟨some 16, none, .mv false (.t 0)⟩,
  ⟨some 17, none, .mv false (.t 5)⟩,
  ⟨some 18, none, .indexAddr 3 (.t 16) (.t 17)⟩,
  ⟨some 19, none, .load false true 3 (.t 18)⟩,
  ⟨some 20, none, .mv false (.t 1)⟩,
  ⟨some 21, none, .mv false (.t 5)⟩,
  ⟨some 22, none, .indexAddr 3 (.t 20) (.t 21)⟩,
  ⟨some 23, none, .load false true 3 (.t 22)⟩,
  ⟨some 24, none, .eqv true (.struct [.i, .i, .i]) (.t 19) (.t 23)⟩] = true := by kernel_rfl
def slices_Equal_gantryfactFact_r7 : List LOper := [
  ⟨some 4, none, .mv false (.c (.bool false))⟩]
def slices_Equal_gantryfactFact_r8 : List LOper := [
  ⟨some 25, none, .bin .add (.t 13) (.c (.int .i64 1))⟩,
  ⟨some 13, none, .mv false (.t 25)⟩]
def slices_Equal_gantryfactFact_b0 : LCode := (.seq (.ops slices_Equal_gantryfactFact_r4) (.seq (.cond (.t 14) .skip (.exit 0)) (.seq (.block 1 (.seq (.ops slices_Equal_gantryfactFact_r5) (.seq (.dops [0, 0, 3, 7, 0, 0, 48, 112, 255] slices_Equal_gantryfactFact_r6) (.cond (.t 24) (.seq (.ops slices_Equal_gantryfactFact_r7) .ret) .skip)))) (.ops slices_Equal_gantryfactFact_r8))))
def slices_Equal_gantryfactFact_r9 : List LOper := [
  ⟨some 4, none, .mv false (.c (.bool true))⟩]
def slices_Equal_gantryfactFact_f : LFunc := ⟨26, 2, [.tmp 4], (.seq (.ops slices_Equal_gantryfactFact_r0) (.seq (.seq (.ops slices_Equal_gantryfactFact_r1) (.cond (.t 10) (.seq (.ops slices_Equal_gantryfactFact_r2) .ret) .skip)) (.seq (.seq (.ops slices_Equal_gantryfactFact_r3) (.block 0 (.loop [0, 1, 12, 13] slices_Equal_gantryfactFact_b0))) (.seq (.ops slices_Equal_gantryfactFact_r9) .ret))))⟩
def slices_Equal_gantryfactFact_v : VFunc := ⟨slices_Equal_gantryfactFact_f, true, false, false⟩
theorem slices_Equal_gantryfactFact_ok : preFunc Try.prog ⟨[], [], []⟩ Try.f26 [[0, 1, 12, 13]] = some slices_Equal_gantryfactFact_f := by kernel_rfl

-- gantry/fact.IsSet
def fact_IsSet_r0 : List LOper := [
  ⟨some 2, none, .mv false (.c (.bool false))⟩]
def fact_IsSet_r1 : List LOper := [
  ⟨some 5, none, .mv false (.t 0)⟩,
  ⟨some 6, none, .lenL (.t 5)⟩,
  ⟨some 7, none, .mv false (.c (.int .i64 0))⟩]
def fact_IsSet_r2 : List LOper := [
  ⟨some 8, none, .bin .lss (.t 7) (.t 6)⟩]
def fact_IsSet_r3 : List LOper := [
  ⟨some 9, none, .mv false (.t 7)⟩,
  ⟨some 10, none, .indexAddr 3 (.t 5) (.t 7)⟩,
  ⟨some 11, none, .load false true 3 (.t 10)⟩,
  ⟨some 4, none, .alloc [.int .i64 0, .int .i64 0, .int .i64 0]⟩,
  ⟨some 3, none, .mv false (.t 9)⟩,
  ⟨none, none, .store 3 (.t 4) (.t 11)⟩]
def fact_IsSet_r4 : List LOper := [
  ⟨some 12, none, .load false true 3 (.t 4)⟩,
  ⟨some 13, none, .call true 52 [(.t 12)]⟩,
  ⟨some 14, none, .un .not (.t 13)⟩,
  ⟨some 15, none, .mv false (.t 14)⟩,
  ⟨some 16, some (15, false), .mv false (.t 3)⟩,
  ⟨some 17, some (15, false), .bin .gtr (.t 16) (.c (.int .i64 0))⟩,
  ⟨some 18, some (15, false), .mv false (.t 17)⟩,
  ⟨some 19, some (18, true), .mv false (.t 0)⟩,
  ⟨some 20, some (18, true), .mv false (.t 3)⟩,
  ⟨some 21, some (18, true), .bin .sub (.t 20) (.c (.int .i64 1))⟩,
  ⟨some 22, some (18, true), .indexAddr 3 (.t 19) (.t 21)⟩,
  ⟨some 23, some (18, true), .load false true 3 (.t 22)⟩,
  ⟨some 24, some (18, true), .load false true 3 (.t 4)⟩,
  ⟨some 25, some (18, true), .call true 54 [(.t 23), (.t 24)]⟩,
  ⟨some 26, some (18, true), .bin .geq (.t 25) (.c (.int .i64 0))⟩,
  ⟨some 27, some (15, false), .pick (.t 18) (.t 26) (.c (.bool false))⟩,
  ⟨some 28, none, .pick (.t 15) (.c (.bool true)) (.t 27)⟩]
theorem fact_IsSet_r4_d : drawC [0, 1, 3, 7, 15, 31, 63, 127, 127, 383, 1023, 2047, 127, 8191, 16383, 32767, 65535] [
  ⟨some 12, none, .load false true 3 (.t 4)⟩,
  ⟨some 13, none, .call true 52 [(.t 12)]⟩,
  ⟨some 14, none, .un .not (.t 13)⟩,
  ⟨some 15, none, .mv false (.t 14)⟩,
  ⟨some 16, some (15, false), .mv false (.t 3)⟩,
  ⟨some 17, some (15, false), .bin .gtr (.t 16) (.c (.int .i64 0))⟩,
  ⟨some 18, some (15, false), .mv false (.t 17)⟩,
  ⟨some 19, some (18, true), .mv false (.t 0)⟩,
  ⟨some 20, some (18, true), .mv false (.t 3)⟩,
  ⟨some 21, some (18, true), .bin .sub (.t 20) (.c (.int .i64 1))⟩,
  ⟨some 22, some (18, true), .indexAddr 3 (.t 19) (.t 21)⟩,
  ⟨some 23, some (18, true), .load false true 3 (.t 22)⟩,
  ⟨some 24, some (18, true), .load false true 3 (.t 4)⟩,
  ⟨some 25, some (18, true), .call true 54 [(.t 23), (.t 24)]⟩,
  ⟨some 26, some (18, true), .bin .geq (.t 25) (.c (.int .i64 0))⟩,
  ⟨some 27, some (15, false), .pick (.t 18) (.t 26) (.c (.bool false))⟩,
  ⟨some 28, none, .pick (.t 15) (.c (.bool true)) (.t 27)⟩] = true := by kernel_rfl
def fact_IsSet_r5 : List LOper := [
  ⟨some 2, none, .mv false (.c (.bool false))⟩]
def fact_IsSet_r6 : List LOper := [
  ⟨some 29, none, .bin .add (.t 7) (.c (.int .i64 1))⟩,
  ⟨some 7, none, .mv false (.t 29)⟩]
def fact_IsSet_b0 : LCode := (.seq (.ops fact_IsSet_r2) (.seq (.cond (.t 8) .skip (.exit 0)) (.seq (.block 1 (.seq (.ops fact_IsSet_r3) (.seq (.dops [0, 1, 3, 7, 15, 31, 63, 127, 127, 383, 1023, 2047, 127, 8191, 16383, 32767, 65535] fact_IsSet_r4) (.cond (.t 28) (.seq (.ops fact_IsSet_r5) .ret) .skip)))) (.ops fact_IsSet_r6))))
def fact_IsSet_r7 : List LOper := [
  ⟨some 2, none, .mv false (.c (.bool true))⟩]
def fact_IsSet_f : LFunc := ⟨30, 1, [.tmp 2], (.seq (.ops fact_IsSet_r0) (.seq (.seq (.ops fact_IsSet_r1) (.block 0 (.loop [0, 5, 6, 7] fact_IsSet_b0))) (.seq (.ops fact_IsSet_r7) .ret)))⟩
def fact_IsSet_v : VFunc := ⟨fact_IsSet_f, true, false, false⟩
theorem fact_IsSet_ok : preFunc Try.prog ⟨[], [], [13, 25]⟩ Try.f27 [[0, 5, 6, 7]] = some fact_IsSet_f := by kernel_rfl

-- gantry/fact.Within
def fact_Within_r0 : List LOper := [
  ⟨some 3, none, .box (.t 1)⟩,
  ⟨some 4, none, .mv false (.c (.bool false))⟩]
def fact_Within_r1 : List LOper := [
  ⟨some 5, none, .mv false (.t 0)⟩,
  ⟨some 6, none, .mkfunc 58 [(.t 3)]⟩,
  ⟨some 7, none, .call false 57 [(.t 5), (.t 6)]⟩,
  ⟨some 8, none, .un .not (.t 7)⟩,
  ⟨some 4, none, .mv false (.t 8)⟩]
def fact_Within_f : LFunc := ⟨9, 2, [.tmp 4], (.seq (.ops fact_Within_r0) (.seq (.ops fact_Within_r1) .ret))⟩
def fact_Within_v : VFunc := ⟨fact_Within_f, true, false, false⟩
theorem fact_Within_ok : preFunc Try.prog ⟨[], [], []⟩ Try.f28 [] = some fact_Within_f := by kernel_rfl

-- gantry/fact.Apply
def fact_Apply_r0 : List LOper := [
  ⟨some 6, none, .mv false (.c (.nilslice))⟩]
def fact_Apply_r1 : List LOper := [
  ⟨some 7, none, .mv false (.t 0)⟩,
  ⟨some 8, none, .mv false (.t 1)⟩,
  ⟨some 9, none, .call false 24 [(.t 7), (.t 8)]⟩,
  ⟨some 10, none, .mv false (.t 2)⟩,
  ⟨some 11, none, .call false 22 [(.t 9), (.t 10)]⟩,
  ⟨some 6, none, .mv false (.t 11)⟩]
def fact_Apply_f : LFunc := ⟨12, 3, [.tmp 6], (.seq (.ops fact_Apply_r0) (.seq (.ops fact_Apply_r1) .ret))⟩
def fact_Apply_v : VFunc := ⟨fact_Apply_f, true, false, false⟩
theorem fact_Apply_ok : preFunc Try.prog ⟨[], [], []⟩ Try.f29 [] = some fact_Apply_f := by kernel_rfl

-- gantry/gantmake.Below
def gantmake_Below_r0 : List LOper := [
  ⟨some 4, none, .mv false (.c (.int .i64 0))⟩]
def gantmake_Below_r1 : List LOper := [
  ⟨some 5, none, .mv false (.t 0)⟩,
  ⟨some 6, none, .mv false (.t 1)⟩,
  ⟨some 7, none, .bin .rem (.t 5) (.t 6)⟩,
  ⟨some 0, none, .mv false (.t 7)⟩]
def gantmake_Below_r2 : List LOper := [
  ⟨some 8, none, .mv false (.t 0)⟩,
  ⟨some 9, none, .bin .lss (.t 8) (.c (.int .i64 0))⟩]
def gantmake_Below_r3 : List LOper := [
  ⟨some 10, none, .mv false (.t 0)⟩,
  ⟨some 11, none, .mv false (.t 1)⟩,
  ⟨some 12, none, .bin .add (.t 10) (.t 11)⟩,
  ⟨some 0, none, .mv false (.t 12)⟩]
def gantmake_Below_r4 : List LOper := [
  ⟨some 13, none, .mv false (.t 0)⟩,
  ⟨some 4, none, .mv false (.t 13)⟩]
def gantmake_Below_f : LFunc := ⟨14, 2, [.tmp 4], (.seq (.ops gantmake_Below_r0) (.seq (.ops gantmake_Below_r1) (.seq (.seq (.ops gantmake_Below_r2) (.cond (.t 9) (.ops gantmake_Below_r3) .skip)) (.seq (.ops gantmake_Below_r4) .ret))))⟩
def gantmake_Below_v : VFunc := ⟨gantmake_Below_f, true, false, false⟩
theorem gantmake_Below_ok : preFunc Try.prog ⟨[], [], []⟩ Try.f30 [] = some gantmake_Below_f := by kernel_rfl

-- (*gantry/gantmake.Stream).Next
def gantmake_Stream_Next_r0 : List LOper := [
  ⟨some 4, none, .mv false (.c (.int .i64 0))⟩]
def gantmake_Stream_Next_r1 : List LOper := [
  ⟨some 6, none, .mv false (.t 0)⟩,
  ⟨some 7, none, .nilchk (.t 6)⟩,
  ⟨some 8, none, .fieldAddr 0 (.t 7)⟩,
  ⟨some 9, none, .load false false 1 (.t 8)⟩,
  ⟨some 10, none, .lenL (.t 9)⟩,
  ⟨some 11, none, .bin .eql (.t 10) (.c (.int .i64 0))⟩,
  ⟨some 12, none, .mv false (.t 11)⟩,
  ⟨some 13, some (12, false), .mv false (.t 1)⟩,
  ⟨some 14, some (12, false), .bin .lss (.t 13) (.c (.int .i64 1))⟩,
  ⟨some 15, none, .pick (.t 12) (.c (.bool true)) (.t 14)⟩]
def gantmake_Stream_Next_r2 : List LOper := [
  ⟨some 4, none, .mv false (.c (.int .i64 0))⟩]
def gantmake_Stream_Next_r3 : List LOper := [
  ⟨some 16, none, .mv false (.t 0)⟩,
  ⟨some 17, none, .nilchk (.t 16)⟩,
  ⟨some 18, none, .fieldAddr 0 (.t 17)⟩,
  ⟨some 19, none, .load false false 1 (.t 18)⟩,
  ⟨some 20, none, .indexAddr 1 (.t 19) (.c (.int .i64 0))⟩,
  ⟨some 21, none, .load false false 1 (.t 20)⟩,
  ⟨some 5, none, .mv false (.t 21)⟩]
def gantmake_Stream_Next_r4 : List LOper := [
  ⟨some 22, none, .mv false (.t 0)⟩,
  ⟨some 23, none, .mv false (.t 0)⟩,
  ⟨some 24, none, .nilchk (.t 23)⟩,
  ⟨some 25, none, .fieldAddr 0 (.t 24)⟩,
  ⟨some 26, none, .load false false 1 (.t 25)⟩,
  ⟨some 27, none, .slc 1 (.t 26) (some (.c (.int .i64 1))) none none⟩,
  ⟨some 28, none, .nilchk (.t 22)⟩,
  ⟨some 29, none, .fieldAddr 0 (.t 28)⟩,
  ⟨none, none, .store 1 (.t 29) (.t 27)⟩]
def gantmake_Stream_Next_r5 : List LOper := [
  ⟨some 30, none, .mv false (.t 5)⟩,
  ⟨some 31, none, .mv false (.t 1)⟩,
  ⟨some 32, none, .call false 30 [(.t 30), (.t 31)]⟩,
  ⟨some 4, none, .mv false (.t 32)⟩]
def gantmake_Stream_Next_f : LFunc := ⟨33, 2, [.tmp 4], (.seq (.ops gantmake_Stream_Next_r0) (.seq (.seq (.ops gantmake_Stream_Next_r1) (.cond (.t 15) (.seq (.ops gantmake_Stream_Next_r2) .ret) .skip)) (.seq (.ops gantmake_Stream_Next_r3) (.seq (.ops gantmake_Stream_Next_r4) (.seq (.ops gantmake_Stream_Next_r5) .ret)))))⟩
def gantmake_Stream_Next_v : VFunc := ⟨gantmake_Stream_Next_f, false, false, false⟩
theorem gantmake_Stream_Next_ok : preFunc Try.prog ⟨[], [], []⟩ Try.f41 [] = some gantmake_Stream_Next_f := by kernel_rfl

-- gantry/fact.Valid
def fact_Valid_r0 : List LOper := [
  ⟨some 1, none, .box (.t 0)⟩,
  ⟨some 2, none, .mv false (.c (.bool false))⟩]
def fact_Valid_r1 : List LOper := [
  ⟨some 3, none, .mv false (.c (.int .i64 0))⟩,
  ⟨some 4, none, .mv false (.c (.int .i64 1))⟩]
def fact_Valid_r2 : List LOper := [
  ⟨some 5, none, .fieldAddr 0 (.t 1)⟩,
  ⟨some 6, none, .load false false 1 (.t 5)⟩]
def fact_Valid_r3 : List LOper := [
  ⟨some 8, none, .bin .eql (.t 6) (.c (.int .i64 1))⟩,
  ⟨some 7, none, .mv false (.t 8)⟩]
def fact_Valid_r4 : List LOper := [
  ⟨some 3, none, .mv false (.c (.int .i64 6))⟩,
  ⟨some 4, none, .mv false (.c (.int .i64 8))⟩]
def fact_Valid_r5 : List LOper := [
  ⟨some 10, none, .bin .eql (.t 6) (.c (.int .i64 2))⟩,
  ⟨some 9, none, .mv false (.t 10)⟩]
def fact_Valid_r6 : List LOper := [
  ⟨some 3, none, .mv false (.c (.int .i64 4))⟩,
  ⟨some 4, none, .mv false (.c (.int .i64 6))⟩]
def fact_Valid_r7 : List LOper := [
  ⟨some 12, none, .bin .eql (.t 6) (.c (.int .i64 3))⟩,
  ⟨some 11, none, .mv false (.t 12)⟩]
def fact_Valid_r8 : List LOper := [
  ⟨some 3, none, .mv false (.c (.int .i64 4))⟩]
def fact_Valid_r9 : List LOper := [
  ⟨some 14, none, .bin .eql (.t 6) (.c (.int .i64 4))⟩,
  ⟨some 13, none, .mv false (.t 14)⟩]
def fact_Valid_r10 : List LOper := [
  ⟨some 3, none, .mv false (.c (.int .i64 8))⟩]
def fact_Valid_r11 : List LOper := [
  ⟨some 16, none, .bin .eql (.t 6) (.c (.int .i64 5))⟩,
  ⟨some 15, none, .mv false (.t 16)⟩]
def fact_Valid_r12 : List LOper := [
  ⟨some 3, none, .mv false (.c (.int .i64 6))⟩]
def fact_Valid_r13 : List LOper := [
  ⟨some 18, none, .bin .eql (.t 6) (.c (.int .i64 6))⟩,
  ⟨some 17, none, .mv false (.t 18)⟩]
def fact_Valid_r14 : List LOper := [
  ⟨some 3, none, .mv false (.c (.int .i64 4))⟩,
  ⟨some 4, none, .mv false (.c (.int .i64 14))⟩]
def fact_Valid_r15 : List LOper := [
  ⟨some 19, none, .fieldAddr 1 (.t 1)⟩,
  ⟨some 20, none, .load false false 1 (.t 19)⟩,
  ⟨some 21, none, .bin .geq (.t 20) (.c (.int .i64 0))⟩,
  ⟨some 22, none, .mv false (.t 21)⟩,
  ⟨some 23, some (22, true), .fieldAddr 1 (.t 1)⟩,
  ⟨some 24, some (22, true), .load false false 1 (.t 23)⟩,
  ⟨some 25, some (22, true), .mv false (.t 3)⟩,
  ⟨some 26, some (22, true), .bin .lss (.t 24) (.t 25)⟩,
  ⟨some 27, none, .pick (.t 22) (.t 26) (.c (.bool false))⟩,
  ⟨some 28, none, .mv false (.t 27)⟩,
  ⟨some 29, some (28, true), .fieldAddr 2 (.t 1)⟩,
  ⟨some 30, some (28, true), .load false false 1 (.t 29)⟩,
  ⟨some 31, some (28, true), .bin .geq (.t 30) (.c (.int .i64 0))⟩,
  ⟨some 32, none, .pick (.t 28) (.t 31) (.c (.bool false))⟩,
  ⟨some 33, none, .mv false (.t 32)⟩,
  ⟨some 34, some (33, true), .fieldAddr 2 (.t 1)⟩,
  ⟨some 35, some (33, true), .load false false 1 (.t 34)⟩,
  ⟨some 36, some (33, true), .mv false (.t 4)⟩,
  ⟨some 37, some (33, true), .bin .lss (.t 35) (.t 36)⟩,
  ⟨some 38, none, .pick (.t 33) (.t 37) (.c (.bool false))⟩,
  ⟨some 2, none, .mv false (.t 38)⟩]
def fact_Valid_f : LFunc := ⟨39, 1, [.tmp 2], (.seq (.ops fact_Valid_r0) (.seq (.ops fact_Valid_r1) (.seq (.seq (.ops fact_Valid_r2) (.block 0 (.seq (.ops fact_Valid_r3) (.cond (.t 7) (.ops fact_Valid_r4) (.seq (.ops fact_Valid_r5) (.cond (.t 9) (.ops fact_Valid_r6) (.seq (.ops fact_Valid_r7) (.cond (.t 11) (.ops fact_Valid_r8) (.seq (.ops fact_Valid_r9) (.cond (.t 13) (.ops fact_Valid_r10) (.seq (.ops fact_Valid_r11) (.cond (.t 15) (.ops fact_Valid_r12) (.seq (.ops fact_Valid_r13) (.cond (.t 17) (.ops fact_Valid_r14) .skip)))))))))))))) (.seq (.ops fact_Valid_r15) .ret))))⟩
def fact_Valid_v : VFunc := ⟨fact_Valid_f, true, false, false⟩
theorem fact_Valid_ok : preFunc Try.prog ⟨[], [], []⟩ Try.f52 [] = some fact_Valid_f := by kernel_rfl

-- gantry/fact.Compare
def fact_Compare_r0 : List LOper := [
  ⟨some 2, none, .box (.t 0)⟩,
  ⟨some 3, none, .box (.t 1)⟩,
  ⟨some 4, none, .mv false (.c (.int .i64 0))⟩]
def fact_Compare_r1 : List LOper := [
  ⟨some 5, none, .fieldAddr 0 (.t 2)⟩,
  ⟨some 6, none, .load false false 1 (.t 5)⟩,
  ⟨some 7, none, .fieldAddr 1 (.t 2)⟩,
  ⟨some 8, none, .load false false 1 (.t 7)⟩,
  ⟨some 9, none, .fieldAddr 2 (.t 2)⟩,
  ⟨some 10, none, .load false false 1 (.t 9)⟩,
  ⟨some 11, none, .bslice false 3 1 [.int .i64 0, .int .i64 0, .int .i64 0] [(0, 1, (.t 6)), (1, 1, (.t 8)), (2, 1, (.t 10))]⟩,
  ⟨some 12, none, .fieldAddr 0 (.t 3)⟩,
  ⟨some 13, none, .load false false 1 (.t 12)⟩,
  ⟨some 14, none, .fieldAddr 1 (.t 3)⟩,
  ⟨some 15, none, .load false false 1 (.t 14)⟩,
  ⟨some 16, none, .fieldAddr 2 (.t 3)⟩,
  ⟨some 17, none, .load false false 1 (.t 16)⟩,
  ⟨some 18, none, .bslice false 3 1 [.int .i64 0, .int .i64 0, .int .i64 0] [(0, 1, (.t 13)), (1, 1, (.t 15)), (2, 1, (.t 17))]⟩,
  ⟨some 19, none, .call false 65 [(.t 11), (.t 18)]⟩,
  ⟨some 4, none, .mv false (.t 19)⟩]
def fact_Compare_f : LFunc := ⟨20, 2, [.tmp 4], (.seq (.ops fact_Compare_r0) (.seq (.ops fact_Compare_r1) .ret))⟩
def fact_Compare_v : VFunc := ⟨fact_Compare_f, true, false, false⟩
theorem fact_Compare_ok : preFunc Try.prog ⟨[], [], []⟩ Try.f54 [] = some fact_Compare_f := by kernel_rfl

-- slices.Compare[[]int,int]
def slices_Compare_intint_r0 : List LOper := [
  ⟨some 4, none, .mv false (.c (.int .i64 0))⟩]
def slices_Compare_intint_r1 : List LOper := [
  ⟨some 9, none, .mv false (.t 0)⟩,
  ⟨some 10, none, .lenL (.t 9)⟩,
  ⟨some 11, none, .mv false (.c (.int .i64 0))⟩]
def slices_Compare_intint_r2 : List LOper := [
  ⟨some 12, none, .bin .lss (.t 11) (.t 10)⟩]
def slices_Compare_intint_r3 : List LOper := [
  ⟨some 13, none, .mv false (.t 11)⟩,
  ⟨some 14, none, .indexAddr 1 (.t 9) (.t 11)⟩,
  ⟨some 15, none, .load false false 1 (.t 14)⟩,
  ⟨some 5, none, .mv false (.t 13)⟩,
  ⟨some 6, none, .mv false (.t 15)⟩]
def slices_Compare_intint_r4 : List LOper := [
  ⟨some 16, none, .mv false (.t 5)⟩,
  ⟨some 17, none, .mv false (.t 1)⟩,
  ⟨some 18, none, .lenL (.t 17)⟩,
  ⟨some 19, none, .bin .geq (.t 16) (.t 18)⟩]
def slices_Compare_intint_r5 : List LOper := [
  ⟨some 4, none, .mv false (.c (.int .i64 1))⟩]
def slices_Compare_intint_r6 : List LOper := [
  ⟨some 20, none, .mv false (.t 1)⟩,
  ⟨some 21, none, .mv false (.t 5)⟩,
  ⟨some 22, none, .indexAddr 1 (.t 20) (.t 21)⟩,
  ⟨some 23, none, .load false false 1 (.t 22)⟩,
  ⟨some 7, none, .mv false (.t 23)⟩]
def slices_Compare_intint_r7 : List LOper := [
  ⟨some 24, none, .mv false (.t 6)⟩,
  ⟨some 25, none, .mv false (.t 7)⟩,
  ⟨some 26, none, .call false 78 [(.t 24), (.t 25)]⟩,
  ⟨some 8, none, .mv false (.t 26)⟩]
def slices_Compare_intint_r8 : List LOper := [
  ⟨some 27, none, .mv false (.t 8)⟩,
  ⟨some 28, none, .bin .neq (.t 27) (.c (.int .i64 0))⟩]
def slices_Compare_intint_r9 : List LOper := [
  ⟨some 29, none, .mv false (.t 8)⟩,
  ⟨some 4, none, .mv false (.t 29)⟩]
def slices_Compare_intint_r10 : List LOper := [
  ⟨some 30, none, .bin .add (.t 11) (.c (.int .i64 1))⟩,
  ⟨some 11, none, .mv false (.t 30)⟩]
def slices_Compare_intint_b0 : LCode := (.seq (.ops slices_Compare_intint_r2) (.seq (.cond (.t 12) .skip (.exit 0)) (.seq (.block 1 (.seq (.ops slices_Compare_intint_r3) (.seq (.seq (.ops slices_Compare_intint_r4) (.cond (.t 19) (.seq (.ops slices_Compare_intint_r5) .ret) .skip)) (.seq (.ops slices_Compare_intint_r6) (.seq (.ops slices_Compare_intint_r7) (.seq (.ops slices_Compare_intint_r8) (.cond (.t 28) (.seq (.ops slices_Compare_intint_r9) .ret) .skip))))))) (.ops slices_Compare_intint_r10))))
def slices_Compare_intint_r11 : List LOper := [
  ⟨some 31, none, .mv false (.t 0)⟩,
  ⟨some 32, none, .lenL (.t 31)⟩,
  ⟨some 33, none, .mv false (.t 1)⟩,
  ⟨some 34, none, .lenL (.t 33)⟩,
  ⟨some 35, none, .bin .lss (.t 32) (.t 34)⟩]
def slices_Compare_intint_r12 : List LOper := [
  ⟨some 4, none, .mv false (.c (.int .i64 (-1)))⟩]
def slices_Compare_intint_r13 : List LOper := [
  ⟨some 4, none, .mv false (.c (.int .i64 0))⟩]
def slices_Compare_intint_f : LFunc := ⟨36, 2, [.tmp 4], (.seq (.ops slices_Compare_intint_r0) (.seq (.seq (.ops slices_Compare_intint_r1) (.block 0 (.loop [0, 1, 9, 10, 11] slices_Compare_intint_b0))) (.seq (.seq (.ops slices_Compare_intint_r11) (.cond (.t 35) (.seq (.ops slices_Compare_intint_r12) .ret) .skip)) (.seq (.ops slices_Compare_intint_r13) .ret))))⟩
def slices_Compare_intint_v : VFunc := ⟨slices_Compare_intint_f, true, false, false⟩
theorem slices_Compare_intint_ok : preFunc Try.prog ⟨[], [], []⟩ Try.f65 [[0, 1, 9, 10, 11]] = some slices_Compare_intint_f := by kernel_rfl

-- cmp.Compare[int]
def cmp_Compare_int_r0 : List LOper := [
  ⟨some 4, none, .mv false (.c (.int .i64 0))⟩]
def cmp_Compare_int_r1 : List LOper := [
  ⟨some 7, none, .mv false (.t 0)⟩,
  ⟨some 8, none, .call false 101 [(.t 7)]⟩,
  ⟨some 5, none, .mv false (.t 8)⟩]
def cmp_Compare_int_r2 : List LOper := [
  ⟨some 9, none, .mv false (.t 1)⟩,
  ⟨some 10, none, .call false 101 [(.t 9)]⟩,
  ⟨some 6, none, .mv false (.t 10)⟩]
def cmp_Compare_int_r3 : List LOper := [
  ⟨some 11, none, .mv false (.t 5)⟩]
def cmp_Compare_int_r4 : List LOper := [
  ⟨some 12, none, .mv false (.t 6)⟩]
def cmp_Compare_int_r5 : List LOper := [
  ⟨some 4, none, .mv false (.c (.int .i64 0))⟩]
def cmp_Compare_int_r6 : List LOper := [
  ⟨some 4, none, .mv false (.c (.int .i64 (-1)))⟩]
def cmp_Compare_int_r7 : List LOper := [
  ⟨some 13, none, .mv false (.t 6)⟩]
def cmp_Compare_int_r8 : List LOper := [
  ⟨some 4, none, .mv false (.c (.int .i64 1))⟩]
def cmp_Compare_int_r9 : List LOper := [
  ⟨some 14, none, .mv false (.t 0)⟩,
  ⟨some 15, none, .mv false (.t 1)⟩,
  ⟨some 16, none, .bin .lss (.t 14) (.t 15)⟩]
def cmp_Compare_int_r10 : List LOper := [
  ⟨some 4, none, .mv false (.c (.int .i64 (-1)))⟩]
def cmp_Compare_int_r11 : List LOper := [
  ⟨some 17, none, .mv false (.t 0)⟩,
  ⟨some 18, none, .mv false (.t 1)⟩,
  ⟨some 19, none, .bin .gtr (.t 17) (.t 18)⟩]
def cmp_Compare_int_r12 : List LOper := [
  ⟨some 4, none, .mv false (.c (.int .i64 1))⟩]
def cmp_Compare_int_r13 : List LOper := [
  ⟨some 4, none, .mv false (.c (.int .i64 0))⟩]
def cmp_Compare_int_f : LFunc := ⟨20, 2, [.tmp 4], (.seq (.ops cmp_Compare_int_r0) (.seq (.ops cmp_Compare_int_r1) (.seq (.ops cmp_Compare_int_r2) (.seq (.seq (.ops cmp_Compare_int_r3) (.cond (.t 11) (.seq (.seq (.ops cmp_Compare_int_r4) (.cond (.t 12) (.seq (.ops cmp_Compare_int_r5) .ret) .skip)) (.seq (.ops cmp_Compare_int_r6) .ret)) .skip)) (.seq (.seq (.ops cmp_Compare_int_r7) (.cond (.t 13) (.seq (.ops cmp_Compare_int_r8) .ret) .skip)) (.seq (.seq (.ops cmp_Compare_int_r9) (.cond (.t 16) (.seq (.ops cmp_Compare_int_r10) .ret) .skip)) (.seq (.seq (.ops cmp_Compare_int_r11) (.cond (.t 19) (.seq (.ops cmp_Compare_int_r12) .ret) .skip)) (.seq (.ops cmp_Compare_int_r13) .ret))))))))⟩
def cmp_Compare_int_v : VFunc := ⟨cmp_Compare_int_f, true, false, false⟩
theorem cmp_Compare_int_ok : preFunc Try.prog ⟨[], [], []⟩ Try.f78 [] = some cmp_Compare_int_f := by kernel_rfl

-- cmp.isNaN[int]
def cmp_isNaN_int_r0 : List LOper := [
  ⟨some 2, none, .mv false (.c (.bool false))⟩]
def cmp_isNaN_int_r1 : List LOper := [
  ⟨some 3, none, .mv false (.t 0)⟩,
  ⟨some 4, none, .mv false (.t 0)⟩,
  ⟨some 5, none, .bin .neq (.t 3) (.t 4)⟩,
  ⟨some 2, none, .mv false (.t 5)⟩]
def cmp_isNaN_int_f : LFunc := ⟨6, 1, [.tmp 2], (.seq (.ops cmp_isNaN_int_r0) (.seq (.ops cmp_isNaN_int_r1) .ret))⟩
def cmp_isNaN_int_v : VFunc := ⟨cmp_isNaN_int_f, true, false, false⟩
theorem cmp_isNaN_int_ok : preFunc Try.prog ⟨[], [], []⟩ Try.f101 [] = some cmp_isNaN_int_f := by kernel_rfl

-- slices.Compact[[]gantry/fact.Fact,gantry/fact.Fact]
def slices_Compact_gantryfactFact_r0 : List LOper := [
  ⟨some 2, none, .mv false (.c (.nilslice))⟩]
def slices_Compact_gantryfactFact_r1 : List LOper := [
  ⟨some 6, none, .mv false (.t 0)⟩,
  ⟨some 7, none, .lenL (.t 6)⟩,
  ⟨some 8, none, .bin .lss (.t 7) (.c (.int .i64 2))⟩]
def slices_Compact_gantryfactFact_r2 : List LOper := [
  ⟨some 9, none, .mv false (.t 0)⟩,
  ⟨some 2, none, .mv false (.t 9)⟩]
def slices_Compact_gantryfactFact_r3 : List LOper := [
  ⟨some 3, none, .mv false (.c (.int .i64 1))⟩]
def slices_Compact_gantryfactFact_r4 : List LOper := [
  ⟨some 10, none, .mv false (.t 3)⟩,
  ⟨some 11, none, .mv false (.t 0)⟩,
  ⟨some 12, none, .lenL (.t 11)⟩,
  ⟨some 13, none, .bin .lss (.t 10) (.t 12)⟩]
def slices_Compact_gantryfactFact_r5 : List LOper := [
  ⟨some 16, none, .mv false (.t 0)⟩,
  ⟨some 17, none, .mv false (.t 3)⟩,
  ⟨some 18, none, .indexAddr 3 (.t 16) (.t 17)⟩,
  ⟨some 19, none, .load false true 3 (.t 18)⟩,
  ⟨some 20, none, .mv false (.t 0)⟩,
  ⟨some 21, none, .mv false (.t 3)⟩,
  ⟨some 22, none, .bin .sub (.t 21) (.c (.int .i64 1))⟩,
  ⟨some 23, none, .indexAddr 3 (.t 20) (.t 22)⟩,
  ⟨some 24, none, .load false true 3 (.t 23)⟩,
  ⟨some 25, none, .eqv false (.struct [.i, .i, .i]) (.t 19) (.t 24)⟩]
theorem slices_Compact_gantryfactFact_r5_d : drawC [0, 0, 3, 7, 0, 0, 32, 112, 240, 511] [
  ⟨some 16, none, .mv false (.t 0)⟩,
  ⟨some 17, none, .mv false (.t 3)⟩,
  ⟨some 18, none, .indexAddr 3 (.t 16) (.t 17)⟩,
  ⟨some 19, none, .load false true 3 (.t 18)⟩,
  ⟨some 20, none, .mv false (.t 0)⟩,
  ⟨some 21, none, .mv false (.t 3)⟩,
  ⟨some 22, none, .bin .sub (.t 21) (.c (.int .i64 1))⟩,
  ⟨some 23, none, .indexAddr 3 (.t 20) (.t 22)⟩,
  ⟨some 24, none, .load false true 3 (.t 23)⟩,
  ⟨some 25, none, .eqv false (.struct [.i, .i, .i]) (.t 19) (.t 24)⟩] = true := by kernel_rfl
def slices_Compact_gantryfactFact_r6 : List LOper := [
  ⟨some 26, none, .mv false (.t 0)⟩,
  ⟨some 27, none, .mv false (.t 3)⟩,
  ⟨some 28, none, .slc 3 (.t 26) (some (.t 27)) none none⟩,
  ⟨some 4, none, .mv false (.t 28)⟩]
def slices_Compact_gantryfactFact_r7 : List LOper := [
  ⟨some 5, none, .mv false (.c (.int .i64 1))⟩]
def slices_Compact_gantryfactFact_r8 : List LOper := [
  ⟨some 29, none, .mv false (.t 5)⟩,
  ⟨some 30, none, .mv false (.t 4)⟩,
  ⟨some 31, none, .lenL (.t 30)⟩,
  ⟨some 32, none, .bin .lss (.t 29) (.t 31)⟩]
def slices_Compact_gantryfactFact_r9 : List LOper := [
  ⟨some 35, none, .mv false (.t 4)⟩,
  ⟨some 36, none, .mv false (.t 5)⟩,
  ⟨some 37, none, .indexAddr 3 (.t 35) (.t 36)⟩,
  ⟨some 38, none, .load false true 3 (.t 37)⟩,
  ⟨some 39, none, .mv false (.t 4)⟩,
  ⟨some 40, none, .mv false (.t 5)⟩,
  ⟨some 41, none, .bin .sub (.t 40) (.c (.int .i64 1))⟩,
  ⟨some 42, none, .indexAddr 3 (.t 39) (.t 41)⟩,
  ⟨some 43, none, .load false true 3 (.t 42)⟩,
  ⟨some 44, none, .eqv true (.struct [.i, .i, .i]) (.t 38) (.t 43)⟩]
theorem slices_Compact_gantryfactFact_r9_d : drawC [0, 0, 3, 7, 0, 0, 32, 112, 240, 511] [
  ⟨some 35, none, .mv false (.t 4)⟩,
  ⟨some 36, none, .mv false (.t 5)⟩,
  ⟨some 37, none, .indexAddr 3 (.t 35) (.t 36)⟩,
  ⟨some 38, none, .load false true 3 (.t 37)⟩,
  ⟨some 39, none, .mv false (.t 4)⟩,
  ⟨some 40, none, .mv false (.t 5)⟩,
  ⟨some 41, none, .bin .sub (.t 40) (.c (.int .i64 1))⟩,
  ⟨some 42, none, .indexAddr 3 (.t 39) (.t 41)⟩,
  ⟨some 43, none, .load false true 3 (.t 42)⟩,
  ⟨some 44, none, .eqv true (.struct [.i, .i, .i]) (.t 38) (.t 43)⟩] = true := by kernel_rfl
def slices_Compact_gantryfactFact_r10 : List LOper := [
  ⟨some 45, none, .mv false (.t 0)⟩,
  ⟨some 46, none, .mv false (.t 3)⟩,
  ⟨some 47, none, .mv false (.t 4)⟩,
  ⟨some 48, none, .mv false (.t 5)⟩,
  ⟨some 49, none, .indexAddr 3 (.t 47) (.t 48)⟩,
  ⟨some 50, none, .load false true 3 (.t 49)⟩,
  ⟨some 51, none, .indexAddr 3 (.t 45) (.t 46)⟩,
  ⟨none, none, .store 3 (.t 51) (.t 50)⟩]
def slices_Compact_gantryfactFact_r11 : List LOper := [
  ⟨some 52, none, .mv false (.t 3)⟩,
  ⟨some 53, none, .bin .add (.t 52) (.c (.int .i64 1))⟩,
  ⟨some 3, none, .mv false (.t 53)⟩]
def slices_Compact_gantryfactFact_r12 : List LOper := [
  ⟨some 33, none, .mv false (.t 5)⟩,
  ⟨some 34, none, .bin .add (.t 33) (.c (.int .i64 1))⟩,
  ⟨some 5, none, .mv false (.t 34)⟩]
def slices_Compact_gantryfactFact_b1 : LCode := (.seq (.seq (.ops slices_Compact_gantryfactFact_r8) (.cond (.t 32) .skip (.exit 2))) (.seq (.block 3 (.seq (.dops [0, 0, 3, 7, 0, 0, 32, 112, 240, 511] slices_Compact_gantryfactFact_r9) (.cond (.t 44) (.seq (.ops slices_Compact_gantryfactFact_r10) (.ops slices_Compact_gantryfactFact_r11)) .skip))) (.ops slices_Compact_gantryfactFact_r12)))
def slices_Compact_gantryfactFact_r13 : List LOper := [
  ⟨some 54, none, .mv false (.t 0)⟩,
  ⟨some 55, none, .mv false (.t 3)⟩,
  ⟨some 56, none, .slc 3 (.t 54) (some (.t 55)) none none⟩,
  ⟨none, none, .rewr (.clear [.int .i64 0, .int .i64 0, .int .i64 0]) 3 0 (.t 56) (.c (.func 0 []))⟩]
def slices_Compact_gantryfactFact_r14 : List LOper := [
  ⟨some 57, none, .mv false (.t 0)⟩,
  ⟨some 58, none, .mv false (.t 3)⟩,
  ⟨some 59, none, .slc 3 (.t 57) none (some (.t 58)) none⟩,
  ⟨some 2, none, .mv false (.t 59)⟩]
def slices_Compact_gantryfactFact_r15 : List LOper := [
  ⟨some 14, none, .mv false (.t 3)⟩,
  ⟨some 15, none, .bin .add (.t 14) (.c (.int .i64 1))⟩,
  ⟨some 3, none, .mv false (.t 15)⟩]
def slices_Compact_gantryfactFact_b0 : LCode := (.seq (.seq (.ops slices_Compact_gantryfactFact_r4) (.cond (.t 13) .skip (.exit 0))) (.seq (.block 1 (.seq (.dops [0, 0, 3, 7, 0, 0, 32, 112, 240, 511] slices_Compact_gantryfactFact_r5) (.cond (.t 25) (.seq (.ops slices_Compact_gantryfactFact_r6) (.seq (.seq (.ops slices_Compact_gantryfactFact_r7) (.block 2 (.loop [0, 3, 4, 5] slices_Compact_gantryfactFact_b1))) (.seq (.ops slices_Compact_gantryfactFact_r13) (.seq (.ops slices_Compact_gantryfactFact_r14) .ret)))) .skip))) (.ops slices_Compact_gantryfactFact_r15)))
def slices_Compact_gantryfactFact_r16 : List LOper := [
  ⟨some 60, none, .mv false (.t 0)⟩,
  ⟨some 2, none, .mv false (.t 60)⟩]
def slices_Compact_gantryfactFact_f : LFunc := ⟨61, 1, [.tmp 2], (.seq (.ops slices_Compact_gantryfactFact_r0) (.seq (.seq (.ops slices_Compact_gantryfactFact_r1) (.cond (.t 8) (.seq (.ops slices_Compact_gantryfactFact_r2) .ret) .skip)) (.seq (.seq (.ops slices_Compact_gantryfactFact_r3) (.block 0 (.loop [0, 3] slices_Compact_gantryfactFact_b0))) (.seq (.ops slices_Compact_gantryfactFact_r16) .ret))))⟩
def slices_Compact_gantryfactFact_v : VFunc := ⟨slices_Compact_gantryfactFact_f, false, false, true⟩
theorem slices_Compact_gantryfactFact_ok : preFunc Try.prog ⟨[], [], []⟩ Try.f55 [[0, 3], [0, 3, 4, 5]] = some slices_Compact_gantryfactFact_f := by kernel_rfl

-- gantry/fact.Has
def fact_Has_r0 : List LOper := [
  ⟨some 3, none, .box (.t 1)⟩,
  ⟨some 4, none, .mv false (.c (.bool false))⟩]
def fact_Has_r1 : List LOper := [
  ⟨some 5, none, .mv false (.t 0)⟩,
  ⟨some 6, none, .load false true 3 (.t 3)⟩,
  ⟨some 7, none, .call false 74 [(.t 5), (.t 6)]⟩,
  ⟨some 4, none, .mv false (.t 7)⟩]
def fact_Has_f : LFunc := ⟨8, 2, [.tmp 4], (.seq (.ops fact_Has_r0) (.seq (.ops fact_Has_r1) .ret))⟩
def fact_Has_v : VFunc := ⟨fact_Has_f, true, false, false⟩
theorem fact_Has_ok : preFunc Try.prog ⟨[], [], []⟩ Try.f56 [] = some fact_Has_f := by kernel_rfl

-- slices.ContainsFunc[[]gantry/fact.Fact,gantry/fact.Fact]
def slices_ContainsFunc_gantryfactFact_r0 : List LOper := [
  ⟨some 4, none, .mv false (.c (.bool false))⟩]
def slices_ContainsFunc_gantryfactFact_r1 : List LOper := [
  ⟨some 5, none, .mv false (.t 0)⟩,
  ⟨some 6, none, .mv false (.t 1)⟩,
  ⟨some 7, none, .call false 75 [(.t 5), (.t 6)]⟩,
  ⟨some 8, none, .bin .geq (.t 7) (.c (.int .i64 0))⟩,
  ⟨some 4, none, .mv false (.t 8)⟩]
def slices_ContainsFunc_gantryfactFact_f : LFunc := ⟨9, 2, [.tmp 4], (.seq (.ops slices_ContainsFunc_gantryfactFact_r0) (.seq (.ops slices_ContainsFunc_gantryfactFact_r1) .ret))⟩
def slices_ContainsFunc_gantryfactFact_v : VFunc := ⟨slices_ContainsFunc_gantryfactFact_f, true, false, false⟩
theorem slices_ContainsFunc_gantryfactFact_ok : preFunc Try.prog ⟨[], [], []⟩ Try.f57 [] = some slices_ContainsFunc_gantryfactFact_f := by kernel_rfl

-- gantry/fact.Within$1
def fact_Within_1_r0 : List LOper := [
  ⟨some 2, none, .box (.t 0)⟩,
  ⟨some 3, none, .mv false (.c (.bool false))⟩]
def fact_Within_1_r1 : List LOper := [
  ⟨some 4, none, .load false false 1 (.t 1)⟩,
  ⟨some 5, none, .load false true 3 (.t 2)⟩,
  ⟨some 6, none, .call false 56 [(.t 4), (.t 5)]⟩,
  ⟨some 7, none, .un .not (.t 6)⟩,
  ⟨some 3, none, .mv false (.t 7)⟩]
def fact_Within_1_f : LFunc := ⟨8, 2, [.tmp 3], (.seq (.ops fact_Within_1_r0) (.seq (.ops fact_Within_1_r1) .ret))⟩
def fact_Within_1_v : VFunc := ⟨fact_Within_1_f, true, false, false⟩
theorem fact_Within_1_ok : preFunc Try.prog ⟨[], [], []⟩ Try.f58 [] = some fact_Within_1_f := by kernel_rfl

-- slices.IndexFunc[[]gantry/fact.Fact,gantry/fact.Fact]
def slices_IndexFunc_gantryfactFact_r0 : List LOper := [
  ⟨some 4, none, .mv false (.c (.int .i64 0))⟩]
def slices_IndexFunc_gantryfactFact_r1 : List LOper := [
  ⟨some 6, none, .mv false (.t 0)⟩,
  ⟨some 7, none, .lenL (.t 6)⟩,
  ⟨some 8, none, .mv false (.c (.int .i64 0))⟩]
def slices_IndexFunc_gantryfactFact_r2 : List LOper := [
  ⟨some 9, none, .bin .lss (.t 8) (.t 7)⟩]
def slices_IndexFunc_gantryfactFact_r3 : List LOper := [
  ⟨some 10, none, .mv false (.t 8)⟩,
  ⟨some 5, none, .mv false (.t 10)⟩]
def slices_IndexFunc_gantryfactFact_r4 : List LOper := [
  ⟨some 11, none, .mv false (.t 1)⟩,
  ⟨some 12, none, .mv false (.t 0)⟩,
  ⟨some 13, none, .mv false (.t 5)⟩,
  ⟨some 14, none, .indexAddr 3 (.t 12) (.t 13)⟩,
  ⟨some 15, none, .load false true 3 (.t 14)⟩,
  ⟨some 16, none, .callv (.t 11) [(.t 15)]⟩]
def slices_IndexFunc_gantryfactFact_r5 : List LOper := [
  ⟨some 17, none, .mv false (.t 5)⟩,
  ⟨some 4, none, .mv false (.t 17)⟩]
def slices_IndexFunc_gantryfactFact_r6 : List LOper := [
  ⟨some 18, none, .bin .add (.t 8) (.c (.int .i64 1))⟩,
  ⟨some 8, none, .mv false (.t 18)⟩]
def slices_IndexFunc_gantryfactFact_b0 : LCode := (.seq (.ops slices_IndexFunc_gantryfactFact_r2) (.seq (.cond (.t 9) .skip (.exit 0)) (.seq (.block 1 (.seq (.ops slices_IndexFunc_gantryfactFact_r3) (.seq (.ops slices_IndexFunc_gantryfactFact_r4) (.cond (.t 16) (.seq (.ops slices_IndexFunc_gantryfactFact_r5) .ret) .skip)))) (.ops slices_IndexFunc_gantryfactFact_r6))))
def slices_IndexFunc_gantryfactFact_r7 : List LOper := [
  ⟨some 4, none, .mv false (.c (.int .i64 (-1)))⟩]
def slices_IndexFunc_gantryfactFact_f : LFunc := ⟨19, 2, [.tmp 4], (.seq (.ops slices_IndexFunc_gantryfactFact_r0) (.seq (.seq (.ops slices_IndexFunc_gantryfactFact_r1) (.block 0 (.loop [0, 1, 7, 8] slices_IndexFunc_gantryfactFact_b0))) (.seq (.ops slices_IndexFunc_gantryfactFact_r7) .ret)))⟩
def slices_IndexFunc_gantryfactFact_v : VFunc := ⟨slices_IndexFunc_gantryfactFact_f, true, false, false⟩
theorem slices_IndexFunc_gantryfactFact_ok : preFunc Try.prog ⟨[], [], []⟩ Try.f75 [[0, 1, 7, 8]] = some slices_IndexFunc_gantryfactFact_f := by kernel_rfl

-- slices.Contains[[]gantry/fact.Fact,gantry/fact.Fact]
def slices_Contains_gantryfactFact_r0 : List LOper := [
  ⟨some 3, none, .box (.t 1)⟩,
  ⟨some 4, none, .mv false (.c (.bool false))⟩]
def slices_Contains_gantryfactFact_r1 : List LOper := [
  ⟨some 5, none, .mv false (.t 0)⟩,
  ⟨some 6, none, .load false true 3 (.t 3)⟩,
  ⟨some 7, none, .call false 92 [(.t 5), (.t 6)]⟩,
  ⟨some 8, none, .bin .geq (.t 7) (.c (.int .i64 0))⟩,
  ⟨some 4, none, .mv false (.t 8)⟩]
def slices_Contains_gantryfactFact_f : LFunc := ⟨9, 2, [.tmp 4], (.seq (.ops slices_Contains_gantryfactFact_r0) (.seq (.ops slices_Contains_gantryfactFact_r1) .ret))⟩
def slices_Contains_gantryfactFact_v : VFunc := ⟨slices_Contains_gantryfactFact_f, true, false, false⟩
theorem slices_Contains_gantryfactFact_ok : preFunc Try.prog ⟨[], [], []⟩ Try.f74 [] = some slices_Contains_gantryfactFact_f := by kernel_rfl

-- slices.Index[[]gantry/fact.Fact,gantry/fact.Fact]
def slices_Index_gantryfactFact_r0 : List LOper := [
  ⟨some 3, none, .box (.t 1)⟩,
  ⟨some 4, none, .mv false (.c (.int .i64 0))⟩]
def slices_Index_gantryfactFact_r1 : List LOper := [
  ⟨some 6, none, .mv false (.t 0)⟩,
  ⟨some 7, none, .lenL (.t 6)⟩,
  ⟨some 8, none, .mv false (.c (.int .i64 0))⟩]
def slices_Index_gantryfactFact_r2 : List LOper := [
  ⟨some 9, none, .bin .lss (.t 8) (.t 7)⟩]
def slices_Index_gantryfactFact_r3 : List LOper := [
  ⟨some 10, none, .mv false (.t 8)⟩,
  ⟨some 5, none, .mv false (.t 10)⟩]
def slices_Index_gantryfactFact_r4 : List LOper := [
  ⟨some 11, none, .load false true 3 (.t 3)⟩,
  ⟨some 12, none, .mv false (.t 0)⟩,
  ⟨some 13, none, .mv false (.t 5)⟩,
  ⟨some 14, none, .indexAddr 3 (.t 12) (.t 13)⟩,
  ⟨some 15, none, .load false true 3 (.t 14)⟩,
  ⟨some 16, none, .eqv false (.struct [.i, .i, .i]) (.t 11) (.t 15)⟩]
theorem slices_Index_gantryfactFact_r4_d : drawC [0, 0, 0, 6, 14, 31] [
  ⟨some 11, none, .load false true 3 (.t 3)⟩,
  ⟨some 12, none, .mv false (.t 0)⟩,
  ⟨some 13, none, .mv false (.t 5)⟩,
  ⟨some 14, none, .indexAddr 3 (.t 12) (.t 13)⟩,
  ⟨some 15, none, .load false true 3 (.t 14)⟩,
  ⟨some 16, none, .eqv false (.struct [.i, .i, .i]) (.t 11) (.t 15)⟩] = true := by kernel_rfl
def slices_Index_gantryfactFact_r5 : List LOper := [
  ⟨some 17, none, .mv false (.t 5)⟩,
  ⟨some 4, none, .mv false (.t 17)⟩]
def slices_Index_gantryfactFact_r6 : List LOper := [
  ⟨some 18, none, .bin .add (.t 8) (.c (.int .i64 1))⟩,
  ⟨some 8, none, .mv false (.t 18)⟩]
def slices_Index_gantryfactFact_b0 : LCode := (.seq (.ops slices_Index_gantryfactFact_r2) (.seq (.cond (.t 9) .skip (.exit 0)) (.seq (.block 1 (.seq (.ops slices_Index_gantryfactFact_r3) (.seq (.dops [0, 0, 0, 6, 14, 31] slices_Index_gantryfactFact_r4) (.cond (.t 16) (.seq (.ops slices_Index_gantryfactFact_r5) .ret) .skip)))) (.ops slices_Index_gantryfactFact_r6))))
def slices_Index_gantryfactFact_r7 : List LOper := [
  ⟨some 4, none, .mv false (.c (.int .i64 (-1)))⟩]
def slices_Index_gantryfactFact_f : LFunc := ⟨19, 2, [.tmp 4], (.seq (.ops slices_Index_gantryfactFact_r0) (.seq (.seq (.ops slices_Index_gantryfactFact_r1) (.block 0 (.loop [0, 3, 7, 8] slices_Index_gantryfactFact_b0))) (.seq (.ops slices_Index_gantryfactFact_r7) .ret)))⟩
def slices_Index_gantryfactFact_v : VFunc := ⟨slices_Index_gantryfactFact_f, true, false, false⟩
theorem slices_Index_gantryfactFact_ok : preFunc Try.prog ⟨[], [], []⟩ Try.f92 [[0, 3, 7, 8]] = some slices_Index_gantryfactFact_f := by kernel_rfl

-- slices.SortFunc[[]gantry/fact.Fact,gantry/fact.Fact]
def slices_SortFunc_gantryfactFact_f : LFunc := sortF 3 54
def slices_SortFunc_gantryfactFact_v : VFunc := ⟨slices_SortFunc_gantryfactFact_f, false, false, true⟩

-- slices.Concat[[]gantry/fact.Fact,gantry/fact.Fact]
def slices_Concat_gantryfactFact_f : LFunc := Vg.G3d.concatF 3 24
def slices_Concat_gantryfactFact_v : VFunc := ⟨slices_Concat_gantryfactFact_f, true, false, false⟩

abbrev n_gantkeep4_FactSounds : Nat := 4
abbrev n_gantkeep4_FactLaws : Nat := 5
abbrev n_fact_Of : Nat := 17
abbrev n_gantkeep4_Facts : Nat := 18
abbrev n_fact_Clash : Nat := 19
abbrev n_gantkeep4_facted : Nat := 20
abbrev n_fact_Sound : Nat := 21
abbrev n_fact_Join : Nat := 22
abbrev n_fact_Meet : Nat := 23
abbrev n_fact_Minus : Nat := 24
abbrev n_gantkeep4_FactLaws_1 : Nat := 25
abbrev n_slices_Equal_gantryfactFact : Nat := 26
abbrev n_fact_IsSet : Nat := 27
abbrev n_fact_Within : Nat := 28
abbrev n_fact_Apply : Nat := 29
abbrev n_gantmake_Below : Nat := 30
abbrev n_gantmake_Stream_Next : Nat := 41
abbrev n_fact_Valid : Nat := 52
abbrev n_fact_Compare : Nat := 54
abbrev n_slices_Compare_intint : Nat := 65
abbrev n_cmp_Compare_int : Nat := 78
abbrev n_cmp_isNaN_int : Nat := 101
abbrev n_slices_Compact_gantryfactFact : Nat := 55
abbrev n_fact_Has : Nat := 56
abbrev n_slices_ContainsFunc_gantryfactFact : Nat := 57
abbrev n_fact_Within_1 : Nat := 58
abbrev n_slices_IndexFunc_gantryfactFact : Nat := 75
abbrev n_slices_Contains_gantryfactFact : Nat := 74
abbrev n_slices_Index_gantryfactFact : Nat := 92
abbrev n_slices_SortFunc_gantryfactFact : Nat := 53
abbrev n_slices_Concat_gantryfactFact : Nat := 40
def vp : VProg
  | 4 => some gantkeep4_FactSounds_v
  | 5 => some gantkeep4_FactLaws_v
  | 17 => some fact_Of_v
  | 18 => some gantkeep4_Facts_v
  | 19 => some fact_Clash_v
  | 20 => some gantkeep4_facted_v
  | 21 => some fact_Sound_v
  | 22 => some fact_Join_v
  | 23 => some fact_Meet_v
  | 24 => some fact_Minus_v
  | 25 => some gantkeep4_FactLaws_1_v
  | 26 => some slices_Equal_gantryfactFact_v
  | 27 => some fact_IsSet_v
  | 28 => some fact_Within_v
  | 29 => some fact_Apply_v
  | 30 => some gantmake_Below_v
  | 41 => some gantmake_Stream_Next_v
  | 52 => some fact_Valid_v
  | 54 => some fact_Compare_v
  | 65 => some slices_Compare_intint_v
  | 78 => some cmp_Compare_int_v
  | 101 => some cmp_isNaN_int_v
  | 55 => some slices_Compact_gantryfactFact_v
  | 56 => some fact_Has_v
  | 57 => some slices_ContainsFunc_gantryfactFact_v
  | 58 => some fact_Within_1_v
  | 75 => some slices_IndexFunc_gantryfactFact_v
  | 74 => some slices_Contains_gantryfactFact_v
  | 92 => some slices_Index_gantryfactFact_v
  | 53 => some slices_SortFunc_gantryfactFact_v
  | 40 => some slices_Concat_gantryfactFact_v
  | _ => none
def lp : LProg := fun f => (vp f).map (·.fn)
theorem lp_ok : PSound false Try.prog lp := by
  intro f lf h
  unfold lp at h
  unfold vp at h
  split at h
  · cases h; exact .inl ⟨_, _, _, Try.func4, gantkeep4_FactSounds_ok⟩
  · cases h; exact .inl ⟨_, _, _, Try.func5, gantkeep4_FactLaws_ok⟩
  · cases h; exact .inl ⟨_, _, _, Try.func17, fact_Of_ok⟩
  · cases h; exact .inl ⟨_, _, _, Try.func18, gantkeep4_Facts_ok⟩
  · cases h; exact .inl ⟨_, _, _, Try.func19, fact_Clash_ok⟩
  · cases h; exact .inl ⟨_, _, _, Try.func20, gantkeep4_facted_ok⟩
  · cases h; exact .inl ⟨_, _, _, Try.func21, fact_Sound_ok⟩
  · cases h; exact .inl ⟨_, _, _, Try.func22, fact_Join_ok⟩
  · cases h; exact .inl ⟨_, _, _, Try.func23, fact_Meet_ok⟩
  · cases h; exact .inl ⟨_, _, _, Try.func24, fact_Minus_ok⟩
  · cases h; exact .inl ⟨_, _, _, Try.func25, gantkeep4_FactLaws_1_ok⟩
  · cases h; exact .inl ⟨_, _, _, Try.func26, slices_Equal_gantryfactFact_ok⟩
  · cases h; exact .inl ⟨_, _, _, Try.func27, fact_IsSet_ok⟩
  · cases h; exact .inl ⟨_, _, _, Try.func28, fact_Within_ok⟩
  · cases h; exact .inl ⟨_, _, _, Try.func29, fact_Apply_ok⟩
  · cases h; exact .inl ⟨_, _, _, Try.func30, gantmake_Below_ok⟩
  · cases h; exact .inl ⟨_, _, _, Try.func41, gantmake_Stream_Next_ok⟩
  · cases h; exact .inl ⟨_, _, _, Try.func52, fact_Valid_ok⟩
  · cases h; exact .inl ⟨_, _, _, Try.func54, fact_Compare_ok⟩
  · cases h; exact .inl ⟨_, _, _, Try.func65, slices_Compare_intint_ok⟩
  · cases h; exact .inl ⟨_, _, _, Try.func78, cmp_Compare_int_ok⟩
  · cases h; exact .inl ⟨_, _, _, Try.func101, cmp_isNaN_int_ok⟩
  · cases h; exact .inl ⟨_, _, _, Try.func55, slices_Compact_gantryfactFact_ok⟩
  · cases h; exact .inl ⟨_, _, _, Try.func56, fact_Has_ok⟩
  · cases h; exact .inl ⟨_, _, _, Try.func57, slices_ContainsFunc_gantryfactFact_ok⟩
  · cases h; exact .inl ⟨_, _, _, Try.func58, fact_Within_1_ok⟩
  · cases h; exact .inl ⟨_, _, _, Try.func75, slices_IndexFunc_gantryfactFact_ok⟩
  · cases h; exact .inl ⟨_, _, _, Try.func74, slices_Contains_gantryfactFact_ok⟩
  · cases h; exact .inl ⟨_, _, _, Try.func92, slices_Index_gantryfactFact_ok⟩
  · cases h; exact .inr (sortFact_ext false)
  · cases h; exact .inr (Vg.G3d.concat_ok rfl)
  · cases h
theorem vp_link (f : FuncId) : Link (lp f) (vp f) := by
  unfold lp
  exact .of_eq rfl
theorem law {f : FuncId} {args : List VV} {h1 : VHeap} (hE : callVL vp 0 f args [] = some (.bool true, h1)) {w : World} {ρ : List Lg.Place} {lh : Heap} (R : Rep (m := false) ⟨w⟩ ρ lh w) {vs : Array Value} {largs : List LV} (hv : VRs ρ vs.toList largs) (hr : RVs (fun _ => none) [] lh args largs) :
    Calls Try.prog f vs w fun e w' => e = .returned (.bool true) ∧ Below w.heap.size w w' := law_true lp_ok vp_link hE R hv hr
end Vg.G3
