import Derived.Test.YtpoofafddbcnpaaVVgLib
import Derived.Test.YtpoofafddbcnpaaProg
import Derived.KernelRfl
namespace Vg.G3
open Go Lg Go.RowKit
open Go.Proofs
-- gantry/gantkeep4.World
def gantkeep4_World_r0 : List LOper := [
  ⟨some 2,none,.box (.t 0)⟩,
  ⟨some 4,none,.alloc [.int .i64 0,.nilslice,.nilslice,.nilslice]⟩]
def gantkeep4_World_r1 : List LOper := [
  ⟨some 12,none,.mv false (.t 1)⟩,
  ⟨some 13,none,.build [.nilslice] [(0,1,(.t 12))]⟩,
  ⟨some 14,none,.box (.t 13)⟩,
  ⟨some 5,none,.mv false (.t 14)⟩]
def gantkeep4_World_r2 : List LOper := [
  ⟨some 15,none,.fieldAddr 3 (.t 2)⟩,
  ⟨some 16,none,.load false false 1 (.t 15)⟩,
  ⟨some 17,none,.lenL (.t 16)⟩,
  ⟨some 18,none,.build [.int .i64 0,.nilslice,.nilslice,.nilslice] [(0,1,(.t 17))]⟩,
  ⟨some 6,none,.alloc [.int .i64 0,.nilslice,.nilslice,.nilslice]⟩,
  ⟨none,none,.store 4 (.t 6) (.t 18)⟩]
def gantkeep4_World_r3 : List LOper := [
  ⟨some 19,none,.mkmap⟩,
  ⟨some 7,none,.mv false (.t 19)⟩]
def gantkeep4_World_r4 : List LOper := [
  ⟨some 20,none,.fieldAddr 2 (.t 2)⟩,
  ⟨some 21,none,.load false false 1 (.t 20)⟩,
  ⟨some 22,none,.lenL (.t 21)⟩,
  ⟨some 23,none,.mv false (.c (.int .i64 0))⟩]
def gantkeep4_World_r5 : List LOper := [
  ⟨some 24,none,.bin .lss (.t 23) (.t 22)⟩]
def gantkeep4_World_r6 : List LOper := [
  ⟨some 8,none,.mv false (.c (.int .i64 (-1)))⟩]
def gantkeep4_World_r7 : List LOper := [
  ⟨some 25,none,.mv false (.t 5)⟩,
  ⟨some 26,none,.fieldAddr 3 (.t 2)⟩,
  ⟨some 27,none,.load false false 1 (.t 26)⟩,
  ⟨some 28,none,.lenL (.t 27)⟩,
  ⟨some 29,none,.fieldAddr 0 (.t 2)⟩,
  ⟨some 30,none,.load false false 1 (.t 29)⟩,
  ⟨some 31,none,.lenL (.t 30)⟩,
  ⟨some 32,none,.bin .add (.t 28) (.t 31)⟩,
  ⟨some 33,none,.bin .add (.t 32) (.c (.int .i64 1))⟩,
  ⟨some 34,none,.call false 41 [(.t 25),(.t 33)]⟩,
  ⟨some 9,none,.mv false (.t 34)⟩]
def gantkeep4_World_r8 : List LOper := [
  ⟨some 35,none,.mv false (.t 9)⟩,
  ⟨some 36,none,.fieldAddr 3 (.t 2)⟩,
  ⟨some 37,none,.load false false 1 (.t 36)⟩,
  ⟨some 38,none,.lenL (.t 37)⟩,
  ⟨some 39,none,.bin .lss (.t 35) (.t 38)⟩]
def gantkeep4_World_r9 : List LOper := [
  ⟨some 40,none,.mv false (.t 9)⟩,
  ⟨some 8,none,.mv false (.t 40)⟩]
def gantkeep4_World_r10 : List LOper := [
  ⟨some 41,none,.mv false (.t 9)⟩,
  ⟨some 42,none,.fieldAddr 3 (.t 2)⟩,
  ⟨some 43,none,.load false false 1 (.t 42)⟩,
  ⟨some 44,none,.lenL (.t 43)⟩,
  ⟨some 45,none,.fieldAddr 0 (.t 2)⟩,
  ⟨some 46,none,.load false false 1 (.t 45)⟩,
  ⟨some 47,none,.lenL (.t 46)⟩,
  ⟨some 48,none,.bin .add (.t 44) (.t 47)⟩,
  ⟨some 49,none,.bin .lss (.t 41) (.t 48)⟩]
def gantkeep4_World_r11 : List LOper := [
  ⟨some 50,none,.mv false (.t 9)⟩,
  ⟨some 51,none,.fieldAddr 3 (.t 2)⟩,
  ⟨some 52,none,.load false false 1 (.t 51)⟩,
  ⟨some 53,none,.lenL (.t 52)⟩,
  ⟨some 54,none,.bin .sub (.t 50) (.t 53)⟩,
  ⟨some 55,none,.bin .sub (.c (.int .i64 (-2))) (.t 54)⟩,
  ⟨some 8,none,.mv false (.t 55)⟩]
def gantkeep4_World_r12 : List LOper := [
  ⟨some 56,none,.mv false (.t 7)⟩,
  ⟨some 57,none,.mv false (.t 8)⟩,
  ⟨some 58,none,.lookup (.bool false) false (.t 56) (.t 57)⟩]
def gantkeep4_World_r13 : List LOper := [
  ⟨some 8,none,.mv false (.c (.int .i64 (-1)))⟩]
def gantkeep4_World_r14 : List LOper := [
  ⟨some 59,none,.mv false (.t 7)⟩,
  ⟨some 60,none,.mv false (.t 8)⟩,
  ⟨some 61,none,.mv false (.t 8)⟩,
  ⟨some 62,none,.bin .neq (.t 61) (.c (.int .i64 (-1)))⟩,
  ⟨none,none,.update (.t 59) (.t 60) (.t 62)⟩]
def gantkeep4_World_r15 : List LOper := [
  ⟨some 63,none,.fieldAddr 1 (.t 6)⟩,
  ⟨some 64,none,.load true false 1 (.t 63)⟩,
  ⟨some 65,none,.mv false (.t 8)⟩,
  ⟨some 66,none,.bslice false 1 1 [.int .i64 0] [(0,1,(.t 65))]⟩,
  ⟨some 67,none,.append true 1 8 (.t 64) (.t 66)⟩,
  ⟨some 68,none,.fieldAddr 1 (.t 6)⟩,
  ⟨none,none,.store 1 (.t 68) (.t 67)⟩]
def gantkeep4_World_r16 : List LOper := [
  ⟨some 69,none,.fieldAddr 2 (.t 6)⟩,
  ⟨some 70,none,.load true false 1 (.t 69)⟩,
  ⟨some 71,none,.mv false (.t 5)⟩,
  ⟨some 72,none,.call false 41 [(.t 71),(.c (.int .i64 2))]⟩,
  ⟨some 73,none,.bin .eql (.t 72) (.c (.int .i64 1))⟩,
  ⟨some 74,none,.bslice false 1 1 [.bool false] [(0,1,(.t 73))]⟩,
  ⟨some 75,none,.append true 1 1 (.t 70) (.t 74)⟩,
  ⟨some 76,none,.fieldAddr 2 (.t 6)⟩,
  ⟨none,none,.store 1 (.t 76) (.t 75)⟩]
theorem gantkeep4_World_r16_d : drawC [0,1,0,4,12,28,63,127,255] [
  ⟨some 69,none,.fieldAddr 2 (.t 6)⟩,
  ⟨some 70,none,.load true false 1 (.t 69)⟩,
  ⟨some 71,none,.mv false (.t 5)⟩,
  ⟨some 72,none,.call false 41 [(.t 71),(.c (.int .i64 2))]⟩,
  ⟨some 73,none,.bin .eql (.t 72) (.c (.int .i64 1))⟩,
  ⟨some 74,none,.bslice false 1 1 [.bool false] [(0,1,(.t 73))]⟩,
  ⟨some 75,none,.append true 1 1 (.t 70) (.t 74)⟩,
  ⟨some 76,none,.fieldAddr 2 (.t 6)⟩,
  ⟨none,none,.store 1 (.t 76) (.t 75)⟩] = false ∧ drawW [0,1,0,4,12,28,63,127,255] [
  ⟨some 69,none,.fieldAddr 2 (.t 6)⟩,
  ⟨some 70,none,.load true false 1 (.t 69)⟩,
  ⟨some 71,none,.mv false (.t 5)⟩,
  ⟨some 72,none,.call false 41 [(.t 71),(.c (.int .i64 2))]⟩,
  ⟨some 73,none,.bin .eql (.t 72) (.c (.int .i64 1))⟩,
  ⟨some 74,none,.bslice false 1 1 [.bool false] [(0,1,(.t 73))]⟩,
  ⟨some 75,none,.append true 1 1 (.t 70) (.t 74)⟩,
  ⟨some 76,none,.fieldAddr 2 (.t 6)⟩,
  ⟨none,none,.store 1 (.t 76) (.t 75)⟩] = false ∧ badPair [0,1,0,4,12,28,63,127,255] [
  ⟨some 69,none,.fieldAddr 2 (.t 6)⟩,
  ⟨some 70,none,.load true false 1 (.t 69)⟩,
  ⟨some 71,none,.mv false (.t 5)⟩,
  ⟨some 72,none,.call false 41 [(.t 71),(.c (.int .i64 2))]⟩,
  ⟨some 73,none,.bin .eql (.t 72) (.c (.int .i64 1))⟩,
  ⟨some 74,none,.bslice false 1 1 [.bool false] [(0,1,(.t 73))]⟩,
  ⟨some 75,none,.append true 1 1 (.t 70) (.t 74)⟩,
  ⟨some 76,none,.fieldAddr 2 (.t 6)⟩,
  ⟨none,none,.store 1 (.t 76) (.t 75)⟩] = some (1,3) ∧ drawX [0,1,0,4,12,28,63,127,255] [
  ⟨some 69,none,.fieldAddr 2 (.t 6)⟩,
  ⟨some 70,none,.load true false 1 (.t 69)⟩,
  ⟨some 71,none,.mv false (.t 5)⟩,
  ⟨some 72,none,.call false 41 [(.t 71),(.c (.int .i64 2))]⟩,
  ⟨some 73,none,.bin .eql (.t 72) (.c (.int .i64 1))⟩,
  ⟨some 74,none,.bslice false 1 1 [.bool false] [(0,1,(.t 73))]⟩,
  ⟨some 75,none,.append true 1 1 (.t 70) (.t 74)⟩,
  ⟨some 76,none,.fieldAddr 2 (.t 6)⟩,
  ⟨none,none,.store 1 (.t 76) (.t 75)⟩] 1 3 = true ∧ isX [0,1,0,4,12,28,63,127,255] [
  ⟨some 69,none,.fieldAddr 2 (.t 6)⟩,
  ⟨some 70,none,.load true false 1 (.t 69)⟩,
  ⟨some 71,none,.mv false (.t 5)⟩,
  ⟨some 72,none,.call false 41 [(.t 71),(.c (.int .i64 2))]⟩,
  ⟨some 73,none,.bin .eql (.t 72) (.c (.int .i64 1))⟩,
  ⟨some 74,none,.bslice false 1 1 [.bool false] [(0,1,(.t 73))]⟩,
  ⟨some 75,none,.append true 1 1 (.t 70) (.t 74)⟩,
  ⟨some 76,none,.fieldAddr 2 (.t 6)⟩,
  ⟨none,none,.store 1 (.t 76) (.t 75)⟩] = true ∧ moveTo 1 3 [
  ⟨some 69,none,.fieldAddr 2 (.t 6)⟩,
  ⟨some 70,none,.load true false 1 (.t 69)⟩,
  ⟨some 71,none,.mv false (.t 5)⟩,
  ⟨some 72,none,.call false 41 [(.t 71),(.c (.int .i64 2))]⟩,
  ⟨some 73,none,.bin .eql (.t 72) (.c (.int .i64 1))⟩,
  ⟨some 74,none,.bslice false 1 1 [.bool false] [(0,1,(.t 73))]⟩,
  ⟨some 75,none,.append true 1 1 (.t 70) (.t 74)⟩,
  ⟨some 76,none,.fieldAddr 2 (.t 6)⟩,
  ⟨none,none,.store 1 (.t 76) (.t 75)⟩] = [
  ⟨some 69,none,.fieldAddr 2 (.t 6)⟩,
  ⟨some 71,none,.mv false (.t 5)⟩,
  ⟨some 72,none,.call false 41 [(.t 71),(.c (.int .i64 2))]⟩,
  ⟨some 70,none,.load true false 1 (.t 69)⟩,
  ⟨some 73,none,.bin .eql (.t 72) (.c (.int .i64 1))⟩,
  ⟨some 74,none,.bslice false 1 1 [.bool false] [(0,1,(.t 73))]⟩,
  ⟨some 75,none,.append true 1 1 (.t 70) (.t 74)⟩,
  ⟨some 76,none,.fieldAddr 2 (.t 6)⟩,
  ⟨none,none,.store 1 (.t 76) (.t 75)⟩] := ⟨by kernel_rfl,by kernel_rfl,by kernel_rfl,by kernel_rfl,by kernel_rfl,by kernel_rfl⟩
def gantkeep4_World_r17 : List LOper := [
  ⟨some 77,none,.bin .add (.t 23) (.c (.int .i64 1))⟩,
  ⟨some 23,none,.mv false (.t 77)⟩]
def gantkeep4_World_b0 : LCode := (.seq (.ops gantkeep4_World_r5) (.seq (.cond (.t 24) .skip (.exit 0)) (.seq (.block 1 (.seq (.ops gantkeep4_World_r6) (.seq (.seq (.ops gantkeep4_World_r7) (.seq (.ops gantkeep4_World_r8) (.cond (.t 39) (.ops gantkeep4_World_r9) (.seq (.ops gantkeep4_World_r10) (.cond (.t 49) (.ops gantkeep4_World_r11) .skip))))) (.seq (.seq (.ops gantkeep4_World_r12) (.cond (.t 58) (.ops gantkeep4_World_r13) .skip)) (.seq (.ops gantkeep4_World_r14) (.seq (.ops gantkeep4_World_r15) (.dops [0,1,0,4,12,28,63,127,255] gantkeep4_World_r16))))))) (.ops gantkeep4_World_r17))))
def gantkeep4_World_r18 : List LOper := [
  ⟨some 78,none,.mkmap⟩,
  ⟨some 10,none,.mv false (.t 78)⟩]
def gantkeep4_World_r19 : List LOper := [
  ⟨some 79,none,.fieldAddr 0 (.t 2)⟩,
  ⟨some 80,none,.load false false 1 (.t 79)⟩,
  ⟨some 81,none,.lenL (.t 80)⟩,
  ⟨some 82,none,.mv false (.c (.int .i64 0))⟩]
def gantkeep4_World_r20 : List LOper := [
  ⟨some 83,none,.bin .lss (.t 82) (.t 81)⟩]
def gantkeep4_World_r21 : List LOper := [
  ⟨some 84,none,.mv false (.t 5)⟩,
  ⟨some 85,none,.fieldAddr 3 (.t 2)⟩,
  ⟨some 86,none,.load false false 1 (.t 85)⟩,
  ⟨some 87,none,.lenL (.t 86)⟩,
  ⟨some 88,none,.fieldAddr 2 (.t 2)⟩,
  ⟨some 89,none,.load false false 1 (.t 88)⟩,
  ⟨some 90,none,.lenL (.t 89)⟩,
  ⟨some 91,none,.bin .add (.t 87) (.t 90)⟩,
  ⟨some 92,none,.bin .add (.t 91) (.c (.int .i64 1))⟩,
  ⟨some 93,none,.call false 41 [(.t 84),(.t 92)]⟩,
  ⟨some 11,none,.mv false (.t 93)⟩]
def gantkeep4_World_r22 : List LOper := [
  ⟨some 95,none,.mv false (.t 11)⟩,
  ⟨some 96,none,.fieldAddr 3 (.t 2)⟩,
  ⟨some 97,none,.load false false 1 (.t 96)⟩,
  ⟨some 98,none,.lenL (.t 97)⟩,
  ⟨some 99,none,.fieldAddr 2 (.t 2)⟩,
  ⟨some 100,none,.load false false 1 (.t 99)⟩,
  ⟨some 101,none,.lenL (.t 100)⟩,
  ⟨some 102,none,.bin .add (.t 98) (.t 101)⟩,
  ⟨some 103,none,.bin .geq (.t 95) (.t 102)⟩,
  ⟨some 94,none,.mv false (.t 103)⟩]
def gantkeep4_World_r23 : List LOper := [
  ⟨some 11,none,.mv false (.c (.int .i64 (-1)))⟩]
def gantkeep4_World_r24 : List LOper := [
  ⟨some 105,none,.mv false (.t 11)⟩,
  ⟨some 106,none,.fieldAddr 3 (.t 2)⟩,
  ⟨some 107,none,.load false false 1 (.t 106)⟩,
  ⟨some 108,none,.lenL (.t 107)⟩,
  ⟨some 109,none,.bin .geq (.t 105) (.t 108)⟩,
  ⟨some 104,none,.mv false (.t 109)⟩]
def gantkeep4_World_r25 : List LOper := [
  ⟨some 110,none,.mv false (.t 11)⟩,
  ⟨some 111,none,.fieldAddr 3 (.t 2)⟩,
  ⟨some 112,none,.load false false 1 (.t 111)⟩,
  ⟨some 113,none,.lenL (.t 112)⟩,
  ⟨some 114,none,.bin .sub (.c (.int .i64 8)) (.t 113)⟩,
  ⟨some 115,none,.bin .add (.t 110) (.t 114)⟩,
  ⟨some 11,none,.mv false (.t 115)⟩]
def gantkeep4_World_r26 : List LOper := [
  ⟨some 116,none,.mv false (.t 10)⟩,
  ⟨some 117,none,.mv false (.t 11)⟩,
  ⟨some 118,none,.lookup (.bool false) false (.t 116) (.t 117)⟩]
def gantkeep4_World_r27 : List LOper := [
  ⟨some 11,none,.mv false (.c (.int .i64 (-1)))⟩]
def gantkeep4_World_r28 : List LOper := [
  ⟨some 119,none,.mv false (.t 10)⟩,
  ⟨some 120,none,.mv false (.t 11)⟩,
  ⟨some 121,none,.mv false (.t 11)⟩,
  ⟨some 122,none,.bin .neq (.t 121) (.c (.int .i64 (-1)))⟩,
  ⟨none,none,.update (.t 119) (.t 120) (.t 122)⟩]
def gantkeep4_World_r29 : List LOper := [
  ⟨some 123,none,.fieldAddr 3 (.t 6)⟩,
  ⟨some 124,none,.load true false 1 (.t 123)⟩,
  ⟨some 125,none,.mv false (.t 11)⟩,
  ⟨some 126,none,.bslice false 1 1 [.int .i64 0] [(0,1,(.t 125))]⟩,
  ⟨some 127,none,.append true 1 8 (.t 124) (.t 126)⟩,
  ⟨some 128,none,.fieldAddr 3 (.t 6)⟩,
  ⟨none,none,.store 1 (.t 128) (.t 127)⟩]
def gantkeep4_World_r30 : List LOper := [
  ⟨some 129,none,.bin .add (.t 82) (.c (.int .i64 1))⟩,
  ⟨some 82,none,.mv false (.t 129)⟩]
def gantkeep4_World_b1 : LCode := (.seq (.ops gantkeep4_World_r20) (.seq (.cond (.t 83) .skip (.exit 2)) (.seq (.block 3 (.seq (.ops gantkeep4_World_r21) (.seq (.block 4 (.seq (.ops gantkeep4_World_r22) (.cond (.t 94) (.ops gantkeep4_World_r23) (.seq (.ops gantkeep4_World_r24) (.cond (.t 104) (.ops gantkeep4_World_r25) .skip))))) (.seq (.seq (.ops gantkeep4_World_r26) (.cond (.t 118) (.ops gantkeep4_World_r27) .skip)) (.seq (.ops gantkeep4_World_r28) (.ops gantkeep4_World_r29)))))) (.ops gantkeep4_World_r30))))
def gantkeep4_World_r31 : List LOper := [
  ⟨some 130,none,.load false true 4 (.t 6)⟩,
  ⟨none,none,.store 4 (.t 4) (.t 130)⟩]
def gantkeep4_World_f : LFunc := ⟨131,2,[.cell 4 true 4],(.seq (.ops gantkeep4_World_r0) (.seq (.ops gantkeep4_World_r1) (.seq (.ops gantkeep4_World_r2) (.seq (.ops gantkeep4_World_r3) (.seq (.seq (.ops gantkeep4_World_r4) (.block 0 (.loop [2,4,5,6,7,22,23] gantkeep4_World_b0))) (.seq (.ops gantkeep4_World_r18) (.seq (.seq (.ops gantkeep4_World_r19) (.block 2 (.loop [2,4,5,6,10,81,82] gantkeep4_World_b1))) (.seq (.ops gantkeep4_World_r31) .ret))))))))⟩
def gantkeep4_World_v : VFunc := ⟨gantkeep4_World_f,true,false,false⟩
theorem gantkeep4_World_ok : preFunc Try.prog ⟨[64,70,124],[],[]⟩ Try.f9 [[2,4,5,6,7,22,23],[2,4,5,6,10,81,82]] = some gantkeep4_World_f := by kernel_rfl

-- gantry/gantkeep4.Small
def gantkeep4_Small_r0 : List LOper := [
  ⟨some 2,none,.alloc [.nilslice,.nilslice,.nilslice,.nilslice,.nilslice,.bool false,.str [],.str []]⟩]
def gantkeep4_Small_r1 : List LOper := [
  ⟨some 8,none,.mv false (.t 0)⟩,
  ⟨some 9,none,.build [.nilslice] [(0,1,(.t 8))]⟩,
  ⟨some 10,none,.box (.t 9)⟩,
  ⟨some 3,none,.mv false (.t 10)⟩]
def gantkeep4_Small_r2 : List LOper := [
  ⟨some 4,none,.alloc [.nilslice,.nilslice,.nilslice,.nilslice,.nilslice,.bool false,.str [],.str []]⟩]
def gantkeep4_Small_r3 : List LOper := [
  ⟨some 11,none,.mv false (.t 3)⟩,
  ⟨some 12,none,.call false 41 [(.t 11),(.c (.int .i64 2))]⟩,
  ⟨some 13,none,.bin .add (.c (.int .i64 1)) (.t 12)⟩,
  ⟨some 14,none,.mv false (.c (.int .i64 0))⟩]
def gantkeep4_Small_r4 : List LOper := [
  ⟨some 15,none,.bin .lss (.t 14) (.t 13)⟩]
def gantkeep4_Small_r5 : List LOper := [
  ⟨some 16,none,.mv false (.t 14)⟩,
  ⟨some 5,none,.mv false (.t 16)⟩]
def gantkeep4_Small_r6 : List LOper := [
  ⟨some 17,none,.fieldAddr 0 (.t 4)⟩,
  ⟨some 18,none,.load true false 1 (.t 17)⟩,
  ⟨some 19,none,.bslice false 2 1 [.str [],.str []] [(0,1,(.c (.str [97,110,110]))),(1,1,(.c (.str [98,111,98])))]⟩,
  ⟨some 20,none,.mv false (.t 5)⟩,
  ⟨some 21,none,.indexAddr 1 (.t 19) (.t 20)⟩,
  ⟨some 22,none,.load false false 1 (.t 21)⟩,
  ⟨some 23,none,.build [.str [],.bool false,.str [],.str [],.bool false,.str [],.str [],.bool false,.bool false,.str [],.str [],.nilslice] [(0,1,(.t 22))]⟩,
  ⟨some 24,none,.bslice false 1 12 [.str [],.bool false,.str [],.str [],.bool false,.str [],.str [],.bool false,.bool false,.str [],.str [],.nilslice] [(0,12,(.t 23))]⟩,
  ⟨some 25,none,.append true 12 168 (.t 18) (.t 24)⟩,
  ⟨some 26,none,.fieldAddr 0 (.t 4)⟩,
  ⟨none,none,.store 1 (.t 26) (.t 25)⟩]
theorem gantkeep4_Small_r6_d : drawC [0,1,0,0,12,28,60,124,255,511,1023] [
  ⟨some 17,none,.fieldAddr 0 (.t 4)⟩,
  ⟨some 18,none,.load true false 1 (.t 17)⟩,
  ⟨some 19,none,.bslice false 2 1 [.str [],.str []] [(0,1,(.c (.str [97,110,110]))),(1,1,(.c (.str [98,111,98])))]⟩,
  ⟨some 20,none,.mv false (.t 5)⟩,
  ⟨some 21,none,.indexAddr 1 (.t 19) (.t 20)⟩,
  ⟨some 22,none,.load false false 1 (.t 21)⟩,
  ⟨some 23,none,.build [.str [],.bool false,.str [],.str [],.bool false,.str [],.str [],.bool false,.bool false,.str [],.str [],.nilslice] [(0,1,(.t 22))]⟩,
  ⟨some 24,none,.bslice false 1 12 [.str [],.bool false,.str [],.str [],.bool false,.str [],.str [],.bool false,.bool false,.str [],.str [],.nilslice] [(0,12,(.t 23))]⟩,
  ⟨some 25,none,.append true 12 168 (.t 18) (.t 24)⟩,
  ⟨some 26,none,.fieldAddr 0 (.t 4)⟩,
  ⟨none,none,.store 1 (.t 26) (.t 25)⟩] = false ∧ drawW [0,1,0,0,12,28,60,124,255,511,1023] [
  ⟨some 17,none,.fieldAddr 0 (.t 4)⟩,
  ⟨some 18,none,.load true false 1 (.t 17)⟩,
  ⟨some 19,none,.bslice false 2 1 [.str [],.str []] [(0,1,(.c (.str [97,110,110]))),(1,1,(.c (.str [98,111,98])))]⟩,
  ⟨some 20,none,.mv false (.t 5)⟩,
  ⟨some 21,none,.indexAddr 1 (.t 19) (.t 20)⟩,
  ⟨some 22,none,.load false false 1 (.t 21)⟩,
  ⟨some 23,none,.build [.str [],.bool false,.str [],.str [],.bool false,.str [],.str [],.bool false,.bool false,.str [],.str [],.nilslice] [(0,1,(.t 22))]⟩,
  ⟨some 24,none,.bslice false 1 12 [.str [],.bool false,.str [],.str [],.bool false,.str [],.str [],.bool false,.bool false,.str [],.str [],.nilslice] [(0,12,(.t 23))]⟩,
  ⟨some 25,none,.append true 12 168 (.t 18) (.t 24)⟩,
  ⟨some 26,none,.fieldAddr 0 (.t 4)⟩,
  ⟨none,none,.store 1 (.t 26) (.t 25)⟩] = true := ⟨by kernel_rfl,by kernel_rfl⟩
def gantkeep4_Small_r7 : List LOper := [
  ⟨some 27,none,.bin .add (.t 14) (.c (.int .i64 1))⟩,
  ⟨some 14,none,.mv false (.t 27)⟩]
def gantkeep4_Small_b0 : LCode := (.seq (.ops gantkeep4_Small_r4) (.seq (.cond (.t 15) .skip (.exit 0)) (.seq (.block 1 (.seq (.ops gantkeep4_Small_r5) (.dops [0,1,0,0,12,28,60,124,255,511,1023] gantkeep4_Small_r6))) (.ops gantkeep4_Small_r7))))
def gantkeep4_Small_r8 : List LOper := [
  ⟨some 28,none,.mv false (.t 3)⟩,
  ⟨some 29,none,.call false 41 [(.t 28),(.c (.int .i64 2))]⟩,
  ⟨some 30,none,.bin .add (.c (.int .i64 1)) (.t 29)⟩,
  ⟨some 31,none,.mv false (.c (.int .i64 0))⟩]
def gantkeep4_Small_r9 : List LOper := [
  ⟨some 32,none,.bin .lss (.t 31) (.t 30)⟩]
def gantkeep4_Small_r10 : List LOper := [
  ⟨some 33,none,.mv false (.t 31)⟩,
  ⟨some 6,none,.mv false (.t 33)⟩]
def gantkeep4_Small_r11 : List LOper := [
  ⟨some 34,none,.fieldAddr 2 (.t 4)⟩,
  ⟨some 35,none,.load true false 1 (.t 34)⟩,
  ⟨some 36,none,.bslice false 2 1 [.str [],.str []] [(0,1,(.c (.str [98,111,108,116]))),(1,1,(.c (.str [110,117,116])))]⟩,
  ⟨some 37,none,.mv false (.t 6)⟩,
  ⟨some 38,none,.indexAddr 1 (.t 36) (.t 37)⟩,
  ⟨some 39,none,.load false false 1 (.t 38)⟩,
  ⟨some 40,none,.build [.str [],.nilslice,.bool false,.str [],.str [],.bool false,.str [],.str [],.bool false,.bool false,.str [],.str []] [(0,1,(.t 39))]⟩,
  ⟨some 41,none,.bslice false 1 12 [.str [],.nilslice,.bool false,.str [],.str [],.bool false,.str [],.str [],.bool false,.bool false,.str [],.str []] [(0,12,(.t 40))]⟩,
  ⟨some 42,none,.append true 12 168 (.t 35) (.t 41)⟩,
  ⟨some 43,none,.fieldAddr 2 (.t 4)⟩,
  ⟨none,none,.store 1 (.t 43) (.t 42)⟩]
theorem gantkeep4_Small_r11_d : drawC [0,1,0,0,12,28,60,124,255,511,1023] [
  ⟨some 34,none,.fieldAddr 2 (.t 4)⟩,
  ⟨some 35,none,.load true false 1 (.t 34)⟩,
  ⟨some 36,none,.bslice false 2 1 [.str [],.str []] [(0,1,(.c (.str [98,111,108,116]))),(1,1,(.c (.str [110,117,116])))]⟩,
  ⟨some 37,none,.mv false (.t 6)⟩,
  ⟨some 38,none,.indexAddr 1 (.t 36) (.t 37)⟩,
  ⟨some 39,none,.load false false 1 (.t 38)⟩,
  ⟨some 40,none,.build [.str [],.nilslice,.bool false,.str [],.str [],.bool false,.str [],.str [],.bool false,.bool false,.str [],.str []] [(0,1,(.t 39))]⟩,
  ⟨some 41,none,.bslice false 1 12 [.str [],.nilslice,.bool false,.str [],.str [],.bool false,.str [],.str [],.bool false,.bool false,.str [],.str []] [(0,12,(.t 40))]⟩,
  ⟨some 42,none,.append true 12 168 (.t 35) (.t 41)⟩,
  ⟨some 43,none,.fieldAddr 2 (.t 4)⟩,
  ⟨none,none,.store 1 (.t 43) (.t 42)⟩] = false ∧ drawW [0,1,0,0,12,28,60,124,255,511,1023] [
  ⟨some 34,none,.fieldAddr 2 (.t 4)⟩,
  ⟨some 35,none,.load true false 1 (.t 34)⟩,
  ⟨some 36,none,.bslice false 2 1 [.str [],.str []] [(0,1,(.c (.str [98,111,108,116]))),(1,1,(.c (.str [110,117,116])))]⟩,
  ⟨some 37,none,.mv false (.t 6)⟩,
  ⟨some 38,none,.indexAddr 1 (.t 36) (.t 37)⟩,
  ⟨some 39,none,.load false false 1 (.t 38)⟩,
  ⟨some 40,none,.build [.str [],.nilslice,.bool false,.str [],.str [],.bool false,.str [],.str [],.bool false,.bool false,.str [],.str []] [(0,1,(.t 39))]⟩,
  ⟨some 41,none,.bslice false 1 12 [.str [],.nilslice,.bool false,.str [],.str [],.bool false,.str [],.str [],.bool false,.bool false,.str [],.str []] [(0,12,(.t 40))]⟩,
  ⟨some 42,none,.append true 12 168 (.t 35) (.t 41)⟩,
  ⟨some 43,none,.fieldAddr 2 (.t 4)⟩,
  ⟨none,none,.store 1 (.t 43) (.t 42)⟩] = true := ⟨by kernel_rfl,by kernel_rfl⟩
def gantkeep4_Small_r12 : List LOper := [
  ⟨some 44,none,.bin .add (.t 31) (.c (.int .i64 1))⟩,
  ⟨some 31,none,.mv false (.t 44)⟩]
def gantkeep4_Small_b1 : LCode := (.seq (.ops gantkeep4_Small_r9) (.seq (.cond (.t 32) .skip (.exit 2)) (.seq (.block 3 (.seq (.ops gantkeep4_Small_r10) (.dops [0,1,0,0,12,28,60,124,255,511,1023] gantkeep4_Small_r11))) (.ops gantkeep4_Small_r12))))
def gantkeep4_Small_r13 : List LOper := [
  ⟨some 45,none,.mv false (.t 3)⟩,
  ⟨some 46,none,.call false 41 [(.t 45),(.c (.int .i64 2))]⟩,
  ⟨some 47,none,.bin .add (.c (.int .i64 1)) (.t 46)⟩,
  ⟨some 48,none,.mv false (.c (.int .i64 0))⟩]
def gantkeep4_Small_r14 : List LOper := [
  ⟨some 49,none,.bin .lss (.t 48) (.t 47)⟩]
def gantkeep4_Small_r15 : List LOper := [
  ⟨some 50,none,.mv false (.t 48)⟩,
  ⟨some 7,none,.mv false (.t 50)⟩]
def gantkeep4_Small_r16 : List LOper := [
  ⟨some 51,none,.fieldAddr 3 (.t 4)⟩,
  ⟨some 52,none,.load true false 1 (.t 51)⟩,
  ⟨some 53,none,.bslice false 2 1 [.str [],.str []] [(0,1,(.c (.str [104,101,114,101]))),(1,1,(.c (.str [116,104,101,114,101])))]⟩,
  ⟨some 54,none,.mv false (.t 7)⟩,
  ⟨some 55,none,.indexAddr 1 (.t 53) (.t 54)⟩,
  ⟨some 56,none,.load false false 1 (.t 55)⟩,
  ⟨some 57,none,.call true 42 [(.c (.int .i64 1)),(.c (.int .i64 4))]⟩,
  ⟨some 58,none,.build [.str [],.bool false,.str [],.str [],.bool false,.str [],.str [],.bool false,.bool false,.str [],.str [],.bool false,.str [],.str []] [(0,1,(.t 56)),(11,3,(.t 57))]⟩,
  ⟨some 59,none,.bslice false 1 14 [.str [],.bool false,.str [],.str [],.bool false,.str [],.str [],.bool false,.bool false,.str [],.str [],.bool false,.str [],.str []] [(0,14,(.t 58))]⟩,
  ⟨some 60,none,.append true 14 184 (.t 52) (.t 59)⟩,
  ⟨some 61,none,.fieldAddr 3 (.t 4)⟩,
  ⟨none,none,.store 1 (.t 61) (.t 60)⟩]
theorem gantkeep4_Small_r16_d : drawC [0,1,0,0,12,28,0,124,252,511,1023,2047] [
  ⟨some 51,none,.fieldAddr 3 (.t 4)⟩,
  ⟨some 52,none,.load true false 1 (.t 51)⟩,
  ⟨some 53,none,.bslice false 2 1 [.str [],.str []] [(0,1,(.c (.str [104,101,114,101]))),(1,1,(.c (.str [116,104,101,114,101])))]⟩,
  ⟨some 54,none,.mv false (.t 7)⟩,
  ⟨some 55,none,.indexAddr 1 (.t 53) (.t 54)⟩,
  ⟨some 56,none,.load false false 1 (.t 55)⟩,
  ⟨some 57,none,.call true 42 [(.c (.int .i64 1)),(.c (.int .i64 4))]⟩,
  ⟨some 58,none,.build [.str [],.bool false,.str [],.str [],.bool false,.str [],.str [],.bool false,.bool false,.str [],.str [],.bool false,.str [],.str []] [(0,1,(.t 56)),(11,3,(.t 57))]⟩,
  ⟨some 59,none,.bslice false 1 14 [.str [],.bool false,.str [],.str [],.bool false,.str [],.str [],.bool false,.bool false,.str [],.str [],.bool false,.str [],.str []] [(0,14,(.t 58))]⟩,
  ⟨some 60,none,.append true 14 184 (.t 52) (.t 59)⟩,
  ⟨some 61,none,.fieldAddr 3 (.t 4)⟩,
  ⟨none,none,.store 1 (.t 61) (.t 60)⟩] = false ∧ drawW [0,1,0,0,12,28,0,124,252,511,1023,2047] [
  ⟨some 51,none,.fieldAddr 3 (.t 4)⟩,
  ⟨some 52,none,.load true false 1 (.t 51)⟩,
  ⟨some 53,none,.bslice false 2 1 [.str [],.str []] [(0,1,(.c (.str [104,101,114,101]))),(1,1,(.c (.str [116,104,101,114,101])))]⟩,
  ⟨some 54,none,.mv false (.t 7)⟩,
  ⟨some 55,none,.indexAddr 1 (.t 53) (.t 54)⟩,
  ⟨some 56,none,.load false false 1 (.t 55)⟩,
  ⟨some 57,none,.call true 42 [(.c (.int .i64 1)),(.c (.int .i64 4))]⟩,
  ⟨some 58,none,.build [.str [],.bool false,.str [],.str [],.bool false,.str [],.str [],.bool false,.bool false,.str [],.str [],.bool false,.str [],.str []] [(0,1,(.t 56)),(11,3,(.t 57))]⟩,
  ⟨some 59,none,.bslice false 1 14 [.str [],.bool false,.str [],.str [],.bool false,.str [],.str [],.bool false,.bool false,.str [],.str [],.bool false,.str [],.str []] [(0,14,(.t 58))]⟩,
  ⟨some 60,none,.append true 14 184 (.t 52) (.t 59)⟩,
  ⟨some 61,none,.fieldAddr 3 (.t 4)⟩,
  ⟨none,none,.store 1 (.t 61) (.t 60)⟩] = true := ⟨by kernel_rfl,by kernel_rfl⟩
def gantkeep4_Small_r17 : List LOper := [
  ⟨some 62,none,.bin .add (.t 48) (.c (.int .i64 1))⟩,
  ⟨some 48,none,.mv false (.t 62)⟩]
def gantkeep4_Small_b2 : LCode := (.seq (.ops gantkeep4_Small_r14) (.seq (.cond (.t 49) .skip (.exit 4)) (.seq (.block 5 (.seq (.ops gantkeep4_Small_r15) (.dops [0,1,0,0,12,28,0,124,252,511,1023,2047] gantkeep4_Small_r16))) (.ops gantkeep4_Small_r17))))
def gantkeep4_Small_r18 : List LOper := [
  ⟨some 63,none,.load false true 8 (.t 4)⟩,
  ⟨none,none,.store 8 (.t 2) (.t 63)⟩]
def gantkeep4_Small_f : LFunc := ⟨64,1,[.cell 2 true 8],(.seq (.ops gantkeep4_Small_r0) (.seq (.ops gantkeep4_Small_r1) (.seq (.ops gantkeep4_Small_r2) (.seq (.seq (.ops gantkeep4_Small_r3) (.block 0 (.loop [2,3,4,13,14] gantkeep4_Small_b0))) (.seq (.seq (.ops gantkeep4_Small_r8) (.block 2 (.loop [2,3,4,30,31] gantkeep4_Small_b1))) (.seq (.seq (.ops gantkeep4_Small_r13) (.block 4 (.loop [2,4,47,48] gantkeep4_Small_b2))) (.seq (.ops gantkeep4_Small_r18) .ret)))))))⟩
def gantkeep4_Small_v : VFunc := ⟨gantkeep4_Small_f,true,false,false⟩
theorem gantkeep4_Small_ok : preFunc Try.prog ⟨[18,35,52],[],[57]⟩ Try.f10 [[2,3,4,13,14],[2,3,4,30,31],[2,4,47,48]] = some gantkeep4_Small_f := by kernel_rfl

-- gantry/act.Holds
def act_Holds_r0 : List LOper := [
  ⟨some 2,none,.box (.t 0)⟩,
  ⟨some 4,none,.mv false (.c (.int .i64 0))⟩]
def act_Holds_r1 : List LOper := [
  ⟨some 5,none,.mv false (.t 1)⟩,
  ⟨some 6,none,.bin .lss (.t 5) (.c (.int .i64 0))⟩,
  ⟨some 7,none,.mv false (.t 6)⟩,
  ⟨some 8,some (7,false),.mv false (.t 1)⟩,
  ⟨some 9,some (7,false),.fieldAddr 3 (.t 2)⟩,
  ⟨some 10,some (7,false),.load false false 1 (.t 9)⟩,
  ⟨some 11,some (7,false),.lenL (.t 10)⟩,
  ⟨some 12,some (7,false),.bin .geq (.t 8) (.t 11)⟩,
  ⟨some 13,none,.pick (.t 7) (.c (.bool true)) (.t 12)⟩]
def act_Holds_r2 : List LOper := [
  ⟨some 4,none,.mv false (.c (.int .i64 (-1)))⟩]
def act_Holds_r3 : List LOper := [
  ⟨some 14,none,.fieldAddr 1 (.t 2)⟩,
  ⟨some 15,none,.load false false 1 (.t 14)⟩,
  ⟨some 16,none,.mv false (.t 1)⟩,
  ⟨some 17,none,.call true 44 [(.t 16)]⟩,
  ⟨some 18,none,.call true 43 [(.t 15),(.t 17)]⟩,
  ⟨some 4,none,.mv false (.t 18)⟩]
theorem act_Holds_r3_d : drawC [0,1,0,4,15,31] [
  ⟨some 14,none,.fieldAddr 1 (.t 2)⟩,
  ⟨some 15,none,.load false false 1 (.t 14)⟩,
  ⟨some 16,none,.mv false (.t 1)⟩,
  ⟨some 17,none,.call true 44 [(.t 16)]⟩,
  ⟨some 18,none,.call true 43 [(.t 15),(.t 17)]⟩,
  ⟨some 4,none,.mv false (.t 18)⟩] = true := by kernel_rfl
def act_Holds_f : LFunc := ⟨19,2,[.tmp 4],(.seq (.ops act_Holds_r0) (.seq (.seq (.ops act_Holds_r1) (.cond (.t 13) (.seq (.ops act_Holds_r2) .ret) .skip)) (.seq (.dops [0,1,0,4,15,31] act_Holds_r3) .ret)))⟩
def act_Holds_v : VFunc := ⟨act_Holds_f,true,false,false⟩
theorem act_Holds_ok : preFunc Try.prog ⟨[],[],[17,18]⟩ Try.f11 [] = some act_Holds_f := by kernel_rfl

-- gantry/act.Run
def act_Run_r0 : List LOper := [
  ⟨some 2,none,.box (.t 0)⟩,
  ⟨some 4,none,.alloc [.int .i64 0,.nilslice,.nilslice,.nilslice]⟩,
  ⟨some 5,none,.mv false (.c (.int .i64 0))⟩,
  ⟨some 6,none,.mv false (.c (.int .i64 0))⟩]
def act_Run_r1 : List LOper := [
  ⟨some 13,none,.load false true 4 (.t 2)⟩,
  ⟨some 14,none,.call false 36 [(.t 13)]⟩,
  ⟨some 7,none,.mv false (.t 14)⟩]
def act_Run_r2 : List LOper := [
  ⟨some 15,none,.mv false (.t 7)⟩,
  ⟨some 16,none,.bin .neq (.t 15) (.c (.int .i64 0))⟩]
def act_Run_r3 : List LOper := [
  ⟨some 17,none,.build [.int .i64 0,.nilslice,.nilslice,.nilslice] []⟩,
  ⟨some 18,none,.mv false (.t 7)⟩,
  ⟨none,none,.store 4 (.t 4) (.t 17)⟩,
  ⟨some 5,none,.mv false (.c (.int .i64 0))⟩,
  ⟨some 6,none,.mv false (.t 18)⟩]
def act_Run_r4 : List LOper := [
  ⟨some 19,none,.load false true 4 (.t 2)⟩,
  ⟨some 20,none,.call false 14 [(.t 19)]⟩,
  ⟨some 8,none,.alloc [.int .i64 0,.nilslice,.nilslice,.nilslice]⟩,
  ⟨none,none,.store 4 (.t 8) (.t 20)⟩]
def act_Run_r5 : List LOper := [
  ⟨some 21,none,.mv false (.t 1)⟩,
  ⟨some 22,none,.lenL (.t 21)⟩,
  ⟨some 23,none,.mv false (.c (.int .i64 0))⟩]
def act_Run_r6 : List LOper := [
  ⟨some 24,none,.bin .lss (.t 23) (.t 22)⟩]
def act_Run_r7 : List LOper := [
  ⟨some 25,none,.mv false (.t 23)⟩,
  ⟨some 26,none,.indexAddr 5 (.t 21) (.t 23)⟩,
  ⟨some 27,none,.load false true 5 (.t 26)⟩,
  ⟨some 10,none,.alloc [.int .i64 0,.int .i64 0,.int .i64 0,.int .i64 0,.int .i64 0]⟩,
  ⟨some 9,none,.mv false (.t 25)⟩,
  ⟨none,none,.store 5 (.t 10) (.t 27)⟩]
def act_Run_r8 : List LOper := [
  ⟨some 29,none,.load false true 4 (.t 8)⟩,
  ⟨some 30,none,.load false true 5 (.t 10)⟩,
  ⟨some 31,none,.call false 38 [(.t 29),(.t 30)]⟩,
  ⟨some 28,none,.mv false (.t 31)⟩,
  ⟨some 32,none,.extract 0 (.t 28)⟩,
  ⟨some 33,none,.extract 1 (.t 28)⟩,
  ⟨some 11,none,.alloc [.int .i64 0,.nilslice,.nilslice,.nilslice]⟩,
  ⟨none,none,.store 4 (.t 11) (.t 32)⟩,
  ⟨some 12,none,.mv false (.t 33)⟩]
def act_Run_r9 : List LOper := [
  ⟨some 34,none,.mv false (.t 12)⟩,
  ⟨some 35,none,.bin .neq (.t 34) (.c (.int .i64 0))⟩]
def act_Run_r10 : List LOper := [
  ⟨some 36,none,.build [.int .i64 0,.nilslice,.nilslice,.nilslice] []⟩,
  ⟨some 37,none,.mv false (.t 9)⟩,
  ⟨some 38,none,.mv false (.t 12)⟩,
  ⟨none,none,.store 4 (.t 4) (.t 36)⟩,
  ⟨some 5,none,.mv false (.t 37)⟩,
  ⟨some 6,none,.mv false (.t 38)⟩]
def act_Run_r11 : List LOper := [
  ⟨some 39,none,.load false true 4 (.t 11)⟩,
  ⟨none,none,.store 4 (.t 8) (.t 39)⟩]
def act_Run_r12 : List LOper := [
  ⟨some 40,none,.bin .add (.t 23) (.c (.int .i64 1))⟩,
  ⟨some 23,none,.mv false (.t 40)⟩]
def act_Run_b0 : LCode := (.seq (.ops act_Run_r6) (.seq (.cond (.t 24) .skip (.exit 0)) (.seq (.block 1 (.seq (.ops act_Run_r7) (.seq (.ops act_Run_r8) (.seq (.seq (.ops act_Run_r9) (.cond (.t 35) (.seq (.ops act_Run_r10) .ret) .skip)) (.ops act_Run_r11))))) (.ops act_Run_r12))))
def act_Run_r13 : List LOper := [
  ⟨some 41,none,.load false true 4 (.t 8)⟩,
  ⟨some 42,none,.mv false (.t 1)⟩,
  ⟨some 43,none,.lenL (.t 42)⟩,
  ⟨none,none,.store 4 (.t 4) (.t 41)⟩,
  ⟨some 5,none,.mv false (.t 43)⟩,
  ⟨some 6,none,.mv false (.c (.int .i64 0))⟩]
def act_Run_f : LFunc := ⟨44,2,[.cell 4 true 4,.tmp 5,.tmp 6],(.seq (.ops act_Run_r0) (.seq (.seq (.ops act_Run_r1) (.seq (.ops act_Run_r2) (.cond (.t 16) (.seq (.ops act_Run_r3) .ret) .skip))) (.seq (.ops act_Run_r4) (.seq (.seq (.ops act_Run_r5) (.block 0 (.loop [1,4,8,21,22,23] act_Run_b0))) (.seq (.ops act_Run_r13) .ret)))))⟩
def act_Run_v : VFunc := ⟨act_Run_f,true,false,false⟩
theorem act_Run_ok : preFunc Try.prog ⟨[],[],[]⟩ Try.f13 [[1,4,8,21,22,23]] = some act_Run_f := by kernel_rfl

-- gantry/act.Copy
def act_Copy_r0 : List LOper := [
  ⟨some 1,none,.box (.t 0)⟩,
  ⟨some 2,none,.alloc [.int .i64 0,.nilslice,.nilslice,.nilslice]⟩]
def act_Copy_r1 : List LOper := [
  ⟨some 3,none,.fieldAddr 0 (.t 1)⟩,
  ⟨some 4,none,.load false false 1 (.t 3)⟩,
  ⟨some 5,none,.fieldAddr 1 (.t 1)⟩,
  ⟨some 6,none,.load false false 1 (.t 5)⟩,
  ⟨some 7,none,.call false 47 [(.t 6)]⟩,
  ⟨some 8,none,.fieldAddr 2 (.t 1)⟩,
  ⟨some 9,none,.load false false 1 (.t 8)⟩,
  ⟨some 10,none,.call false 48 [(.t 9)]⟩,
  ⟨some 11,none,.fieldAddr 3 (.t 1)⟩,
  ⟨some 12,none,.load false false 1 (.t 11)⟩,
  ⟨some 13,none,.call false 47 [(.t 12)]⟩,
  ⟨some 14,none,.build [.int .i64 0,.nilslice,.nilslice,.nilslice] [(0,1,(.t 4)),(1,1,(.t 7)),(2,1,(.t 10)),(3,1,(.t 13))]⟩,
  ⟨none,none,.store 4 (.t 2) (.t 14)⟩]
theorem act_Copy_r1_d : drawC [0,1,0,4,12,0,32,124,0,256,1020,2047,4095] [
  ⟨some 3,none,.fieldAddr 0 (.t 1)⟩,
  ⟨some 4,none,.load false false 1 (.t 3)⟩,
  ⟨some 5,none,.fieldAddr 1 (.t 1)⟩,
  ⟨some 6,none,.load false false 1 (.t 5)⟩,
  ⟨some 7,none,.call false 47 [(.t 6)]⟩,
  ⟨some 8,none,.fieldAddr 2 (.t 1)⟩,
  ⟨some 9,none,.load false false 1 (.t 8)⟩,
  ⟨some 10,none,.call false 48 [(.t 9)]⟩,
  ⟨some 11,none,.fieldAddr 3 (.t 1)⟩,
  ⟨some 12,none,.load false false 1 (.t 11)⟩,
  ⟨some 13,none,.call false 47 [(.t 12)]⟩,
  ⟨some 14,none,.build [.int .i64 0,.nilslice,.nilslice,.nilslice] [(0,1,(.t 4)),(1,1,(.t 7)),(2,1,(.t 10)),(3,1,(.t 13))]⟩,
  ⟨none,none,.store 4 (.t 2) (.t 14)⟩] = false ∧ drawW [0,1,0,4,12,0,32,124,0,256,1020,2047,4095] [
  ⟨some 3,none,.fieldAddr 0 (.t 1)⟩,
  ⟨some 4,none,.load false false 1 (.t 3)⟩,
  ⟨some 5,none,.fieldAddr 1 (.t 1)⟩,
  ⟨some 6,none,.load false false 1 (.t 5)⟩,
  ⟨some 7,none,.call false 47 [(.t 6)]⟩,
  ⟨some 8,none,.fieldAddr 2 (.t 1)⟩,
  ⟨some 9,none,.load false false 1 (.t 8)⟩,
  ⟨some 10,none,.call false 48 [(.t 9)]⟩,
  ⟨some 11,none,.fieldAddr 3 (.t 1)⟩,
  ⟨some 12,none,.load false false 1 (.t 11)⟩,
  ⟨some 13,none,.call false 47 [(.t 12)]⟩,
  ⟨some 14,none,.build [.int .i64 0,.nilslice,.nilslice,.nilslice] [(0,1,(.t 4)),(1,1,(.t 7)),(2,1,(.t 10)),(3,1,(.t 13))]⟩,
  ⟨none,none,.store 4 (.t 2) (.t 14)⟩] = true := ⟨by kernel_rfl,by kernel_rfl⟩
def act_Copy_f : LFunc := ⟨15,1,[.cell 2 true 4],(.seq (.ops act_Copy_r0) (.seq (.dops [0,1,0,4,12,0,32,124,0,256,1020,2047,4095] act_Copy_r1) .ret))⟩
def act_Copy_v : VFunc := ⟨act_Copy_f,false,false,true⟩
theorem act_Copy_ok : preFunc Try.prog ⟨[],[],[]⟩ Try.f14 [] = some act_Copy_f := by kernel_rfl

-- gantry/act.Same
def act_Same_r0 : List LOper := [
  ⟨some 2,none,.box (.t 0)⟩,
  ⟨some 3,none,.box (.t 1)⟩,
  ⟨some 4,none,.mv false (.c (.bool false))⟩]
def act_Same_r1 : List LOper := [
  ⟨some 5,none,.fieldAddr 0 (.t 2)⟩,
  ⟨some 6,none,.load false false 1 (.t 5)⟩,
  ⟨some 7,none,.fieldAddr 0 (.t 3)⟩,
  ⟨some 8,none,.load false false 1 (.t 7)⟩,
  ⟨some 9,none,.bin .eql (.t 6) (.t 8)⟩,
  ⟨some 10,none,.mv false (.t 9)⟩,
  ⟨some 11,some (10,true),.fieldAddr 1 (.t 2)⟩,
  ⟨some 12,some (10,true),.load false false 1 (.t 11)⟩,
  ⟨some 13,some (10,true),.fieldAddr 1 (.t 3)⟩,
  ⟨some 14,some (10,true),.load false false 1 (.t 13)⟩,
  ⟨some 15,some (10,true),.call false 49 [(.t 12),(.t 14)]⟩,
  ⟨some 16,none,.pick (.t 10) (.t 15) (.c (.bool false))⟩,
  ⟨some 17,none,.mv false (.t 16)⟩,
  ⟨some 18,some (17,true),.fieldAddr 2 (.t 2)⟩,
  ⟨some 19,some (17,true),.load false false 1 (.t 18)⟩,
  ⟨some 20,some (17,true),.fieldAddr 2 (.t 3)⟩,
  ⟨some 21,some (17,true),.load false false 1 (.t 20)⟩,
  ⟨some 22,some (17,true),.call false 50 [(.t 19),(.t 21)]⟩,
  ⟨some 23,none,.pick (.t 17) (.t 22) (.c (.bool false))⟩,
  ⟨some 24,none,.mv false (.t 23)⟩,
  ⟨some 25,some (24,true),.fieldAddr 3 (.t 2)⟩,
  ⟨some 26,some (24,true),.load false false 1 (.t 25)⟩,
  ⟨some 27,some (24,true),.fieldAddr 3 (.t 3)⟩,
  ⟨some 28,some (24,true),.load false false 1 (.t 27)⟩,
  ⟨some 29,some (24,true),.call false 49 [(.t 26),(.t 28)]⟩,
  ⟨some 30,none,.pick (.t 24) (.t 29) (.c (.bool false))⟩,
  ⟨some 4,none,.mv false (.t 30)⟩]
def act_Same_f : LFunc := ⟨31,2,[.tmp 4],(.seq (.ops act_Same_r0) (.seq (.ops act_Same_r1) .ret))⟩
def act_Same_v : VFunc := ⟨act_Same_f,true,false,false⟩
theorem act_Same_ok : preFunc Try.prog ⟨[],[],[]⟩ Try.f15 [] = some act_Same_f := by kernel_rfl

-- gantry/gantkeep4.acted
def gantkeep4_acted_r0 : List LOper := [
  ⟨some 0,none,.mv false (.c (.bool false))⟩]
def gantkeep4_acted_r1 : List LOper := [
  ⟨some 4,none,.make false 12 168 [.str [],.bool false,.str [],.str [],.bool false,.str [],.str [],.bool false,.bool false,.str [],.str [],.nilslice] (.c (.int .i64 1)) (.c (.int .i64 1))⟩,
  ⟨some 5,none,.make false 12 168 [.str [],.nilslice,.bool false,.str [],.str [],.bool false,.str [],.str [],.bool false,.bool false,.str [],.str []] (.c (.int .i64 1)) (.c (.int .i64 1))⟩,
  ⟨some 6,none,.build [.nilslice,.nilslice,.nilslice,.nilslice,.nilslice,.bool false,.str [],.str []] [(0,1,(.t 4)),(2,1,(.t 5))]⟩,
  ⟨some 7,none,.call true 51 [(.t 6)]⟩,
  ⟨some 1,none,.alloc [.int .i64 0,.nilslice,.nilslice,.nilslice]⟩,
  ⟨none,none,.store 4 (.t 1) (.t 7)⟩]
theorem gantkeep4_acted_r1_d : drawC [0,0,3,7,0,31] [
  ⟨some 4,none,.make false 12 168 [.str [],.bool false,.str [],.str [],.bool false,.str [],.str [],.bool false,.bool false,.str [],.str [],.nilslice] (.c (.int .i64 1)) (.c (.int .i64 1))⟩,
  ⟨some 5,none,.make false 12 168 [.str [],.nilslice,.bool false,.str [],.str [],.bool false,.str [],.str [],.bool false,.bool false,.str [],.str []] (.c (.int .i64 1)) (.c (.int .i64 1))⟩,
  ⟨some 6,none,.build [.nilslice,.nilslice,.nilslice,.nilslice,.nilslice,.bool false,.str [],.str []] [(0,1,(.t 4)),(2,1,(.t 5))]⟩,
  ⟨some 7,none,.call true 51 [(.t 6)]⟩,
  ⟨some 1,none,.alloc [.int .i64 0,.nilslice,.nilslice,.nilslice]⟩,
  ⟨none,none,.store 4 (.t 1) (.t 7)⟩] = true := by kernel_rfl
def gantkeep4_acted_r2 : List LOper := [
  ⟨some 9,none,.load false true 4 (.t 1)⟩,
  ⟨some 10,none,.build [.int .i64 0,.int .i64 0,.int .i64 0,.int .i64 0,.int .i64 0] [(2,1,(.c (.int .i64 0))),(3,1,(.c (.int .i64 (-1))))]⟩,
  ⟨some 11,none,.call false 38 [(.t 9),(.t 10)]⟩,
  ⟨some 8,none,.mv false (.t 11)⟩,
  ⟨some 12,none,.extract 0 (.t 8)⟩,
  ⟨some 13,none,.extract 1 (.t 8)⟩,
  ⟨some 2,none,.alloc [.int .i64 0,.nilslice,.nilslice,.nilslice]⟩,
  ⟨none,none,.store 4 (.t 2) (.t 12)⟩,
  ⟨some 3,none,.mv false (.t 13)⟩]
def gantkeep4_acted_r3 : List LOper := [
  ⟨some 14,none,.mv false (.t 3)⟩,
  ⟨some 15,none,.bin .eql (.t 14) (.c (.int .i64 0))⟩,
  ⟨some 16,none,.mv false (.t 15)⟩,
  ⟨some 17,some (16,true),.fieldAddr 3 (.t 2)⟩,
  ⟨some 18,some (16,true),.load false false 1 (.t 17)⟩,
  ⟨some 19,some (16,true),.lenL (.t 18)⟩,
  ⟨some 20,some (16,true),.bin .eql (.t 19) (.c (.int .i64 1))⟩,
  ⟨some 21,none,.pick (.t 16) (.t 20) (.c (.bool false))⟩,
  ⟨some 22,none,.mv false (.t 21)⟩,
  ⟨some 23,some (22,true),.fieldAddr 3 (.t 2)⟩,
  ⟨some 24,some (22,true),.load false false 1 (.t 23)⟩,
  ⟨some 25,some (22,true),.indexAddr 1 (.t 24) (.c (.int .i64 0))⟩,
  ⟨some 26,some (22,true),.load false false 1 (.t 25)⟩,
  ⟨some 27,some (22,true),.bin .eql (.t 26) (.c (.int .i64 8))⟩,
  ⟨some 28,none,.pick (.t 22) (.t 27) (.c (.bool false))⟩,
  ⟨some 0,none,.mv false (.t 28)⟩]
def gantkeep4_acted_f : LFunc := ⟨29,0,[.tmp 0],(.seq (.ops gantkeep4_acted_r0) (.seq (.dops [0,0,3,7,0,31] gantkeep4_acted_r1) (.seq (.ops gantkeep4_acted_r2) (.seq (.ops gantkeep4_acted_r3) .ret))))⟩
def gantkeep4_acted_v : VFunc := ⟨gantkeep4_acted_f,true,false,false⟩
theorem gantkeep4_acted_ok : preFunc Try.prog ⟨[],[],[4,5,7]⟩ Try.f16 [] = some gantkeep4_acted_f := by kernel_rfl

-- gantry/gantmake.Below
def gantmake_Below_r0 : List LOper := [
  ⟨some 4,none,.mv false (.c (.int .i64 0))⟩]
def gantmake_Below_r1 : List LOper := [
  ⟨some 5,none,.mv false (.t 0)⟩,
  ⟨some 6,none,.mv false (.t 1)⟩,
  ⟨some 7,none,.bin .rem (.t 5) (.t 6)⟩,
  ⟨some 0,none,.mv false (.t 7)⟩]
def gantmake_Below_r2 : List LOper := [
  ⟨some 8,none,.mv false (.t 0)⟩,
  ⟨some 9,none,.bin .lss (.t 8) (.c (.int .i64 0))⟩]
def gantmake_Below_r3 : List LOper := [
  ⟨some 10,none,.mv false (.t 0)⟩,
  ⟨some 11,none,.mv false (.t 1)⟩,
  ⟨some 12,none,.bin .add (.t 10) (.t 11)⟩,
  ⟨some 0,none,.mv false (.t 12)⟩]
def gantmake_Below_r4 : List LOper := [
  ⟨some 13,none,.mv false (.t 0)⟩,
  ⟨some 4,none,.mv false (.t 13)⟩]
def gantmake_Below_f : LFunc := ⟨14,2,[.tmp 4],(.seq (.ops gantmake_Below_r0) (.seq (.ops gantmake_Below_r1) (.seq (.seq (.ops gantmake_Below_r2) (.cond (.t 9) (.ops gantmake_Below_r3) .skip)) (.seq (.ops gantmake_Below_r4) .ret))))⟩
def gantmake_Below_v : VFunc := ⟨gantmake_Below_f,true,false,false⟩
theorem gantmake_Below_ok : preFunc Try.prog ⟨[],[],[]⟩ Try.f30 [] = some gantmake_Below_f := by kernel_rfl

-- gantry/act.Can
def act_Can_r0 : List LOper := [
  ⟨some 2,none,.box (.t 0)⟩,
  ⟨some 3,none,.box (.t 1)⟩,
  ⟨some 4,none,.mv false (.c (.int .i64 0))⟩]
def act_Can_r1 : List LOper := [
  ⟨some 6,none,.load false true 4 (.t 2)⟩,
  ⟨some 7,none,.call false 36 [(.t 6)]⟩,
  ⟨some 5,none,.mv false (.t 7)⟩]
def act_Can_r2 : List LOper := [
  ⟨some 8,none,.mv false (.t 5)⟩,
  ⟨some 9,none,.bin .neq (.t 8) (.c (.int .i64 0))⟩]
def act_Can_r3 : List LOper := [
  ⟨some 10,none,.mv false (.t 5)⟩,
  ⟨some 4,none,.mv false (.t 10)⟩]
def act_Can_r4 : List LOper := [
  ⟨some 11,none,.load false true 5 (.t 3)⟩,
  ⟨some 12,none,.call false 63 [(.t 11)]⟩,
  ⟨some 13,none,.un .not (.t 12)⟩]
def act_Can_r5 : List LOper := [
  ⟨some 4,none,.mv false (.c (.int .i64 3))⟩]
def act_Can_r6 : List LOper := [
  ⟨some 14,none,.fieldAddr 1 (.t 3)⟩,
  ⟨some 15,none,.load false false 1 (.t 14)⟩,
  ⟨some 16,none,.fieldAddr 3 (.t 2)⟩,
  ⟨some 17,none,.load false false 1 (.t 16)⟩,
  ⟨some 18,none,.lenL (.t 17)⟩,
  ⟨some 19,none,.bin .geq (.t 15) (.t 18)⟩,
  ⟨some 20,none,.mv false (.t 19)⟩,
  ⟨some 21,some (20,false),.fieldAddr 2 (.t 3)⟩,
  ⟨some 22,some (20,false),.load false false 1 (.t 21)⟩,
  ⟨some 23,some (20,false),.fieldAddr 1 (.t 2)⟩,
  ⟨some 24,some (20,false),.load false false 1 (.t 23)⟩,
  ⟨some 25,some (20,false),.lenL (.t 24)⟩,
  ⟨some 26,some (20,false),.bin .geq (.t 22) (.t 25)⟩,
  ⟨some 27,none,.pick (.t 20) (.c (.bool true)) (.t 26)⟩,
  ⟨some 28,none,.mv false (.t 27)⟩,
  ⟨some 29,some (28,false),.fieldAddr 3 (.t 3)⟩,
  ⟨some 30,some (28,false),.load false false 1 (.t 29)⟩,
  ⟨some 31,some (28,false),.fieldAddr 0 (.t 2)⟩,
  ⟨some 32,some (28,false),.load false false 1 (.t 31)⟩,
  ⟨some 33,some (28,false),.bin .geq (.t 30) (.t 32)⟩,
  ⟨some 34,none,.pick (.t 28) (.c (.bool true)) (.t 33)⟩]
def act_Can_r7 : List LOper := [
  ⟨some 4,none,.mv false (.c (.int .i64 4))⟩]
def act_Can_r8 : List LOper := [
  ⟨some 35,none,.load false true 4 (.t 2)⟩,
  ⟨some 36,none,.load false true 5 (.t 3)⟩,
  ⟨some 37,none,.call false 64 [(.t 35),(.t 36)]⟩,
  ⟨some 4,none,.mv false (.t 37)⟩]
def act_Can_f : LFunc := ⟨38,2,[.tmp 4],(.seq (.ops act_Can_r0) (.seq (.seq (.ops act_Can_r1) (.seq (.ops act_Can_r2) (.cond (.t 9) (.seq (.ops act_Can_r3) .ret) .skip))) (.seq (.seq (.ops act_Can_r4) (.cond (.t 13) (.seq (.ops act_Can_r5) .ret) .skip)) (.seq (.seq (.ops act_Can_r6) (.cond (.t 34) (.seq (.ops act_Can_r7) .ret) .skip)) (.seq (.ops act_Can_r8) .ret)))))⟩
def act_Can_v : VFunc := ⟨act_Can_f,true,false,false⟩
theorem act_Can_ok : preFunc Try.prog ⟨[],[],[]⟩ Try.f33 [] = some act_Can_f := by kernel_rfl

-- gantry/act.Check
def act_Check_r0 : List LOper := [
  ⟨some 1,none,.box (.t 0)⟩,
  ⟨some 2,none,.mv false (.c (.int .i64 0))⟩]
def act_Check_r1 : List LOper := [
  ⟨some 7,none,.fieldAddr 0 (.t 1)⟩,
  ⟨some 8,none,.load false false 1 (.t 7)⟩,
  ⟨some 9,none,.bin .lss (.t 8) (.c (.int .i64 0))⟩,
  ⟨some 10,none,.mv false (.t 9)⟩,
  ⟨some 11,some (10,false),.fieldAddr 0 (.t 1)⟩,
  ⟨some 12,some (10,false),.load false false 1 (.t 11)⟩,
  ⟨some 13,some (10,false),.bin .gtr (.t 12) (.c (.int .i64 8))⟩,
  ⟨some 14,none,.pick (.t 10) (.c (.bool true)) (.t 13)⟩,
  ⟨some 15,none,.mv false (.t 14)⟩,
  ⟨some 16,some (15,false),.fieldAddr 1 (.t 1)⟩,
  ⟨some 17,some (15,false),.load false false 1 (.t 16)⟩,
  ⟨some 18,some (15,false),.lenL (.t 17)⟩,
  ⟨some 19,some (15,false),.bin .gtr (.t 18) (.c (.int .i64 6))⟩,
  ⟨some 20,none,.pick (.t 15) (.c (.bool true)) (.t 19)⟩,
  ⟨some 21,none,.mv false (.t 20)⟩,
  ⟨some 22,some (21,false),.fieldAddr 3 (.t 1)⟩,
  ⟨some 23,some (21,false),.load false false 1 (.t 22)⟩,
  ⟨some 24,some (21,false),.lenL (.t 23)⟩,
  ⟨some 25,some (21,false),.bin .gtr (.t 24) (.c (.int .i64 4))⟩,
  ⟨some 26,none,.pick (.t 21) (.c (.bool true)) (.t 25)⟩]
def act_Check_r2 : List LOper := [
  ⟨some 2,none,.mv false (.c (.int .i64 2))⟩]
def act_Check_r3 : List LOper := [
  ⟨some 27,none,.fieldAddr 2 (.t 1)⟩,
  ⟨some 28,none,.load false false 1 (.t 27)⟩,
  ⟨some 29,none,.lenL (.t 28)⟩,
  ⟨some 30,none,.fieldAddr 1 (.t 1)⟩,
  ⟨some 31,none,.load false false 1 (.t 30)⟩,
  ⟨some 32,none,.lenL (.t 31)⟩,
  ⟨some 33,none,.bin .neq (.t 29) (.t 32)⟩]
def act_Check_r4 : List LOper := [
  ⟨some 2,none,.mv false (.c (.int .i64 3))⟩]
def act_Check_r5 : List LOper := [
  ⟨some 34,none,.fieldAddr 1 (.t 1)⟩,
  ⟨some 35,none,.load false false 1 (.t 34)⟩,
  ⟨some 36,none,.lenL (.t 35)⟩,
  ⟨some 37,none,.mv false (.c (.int .i64 0))⟩]
def act_Check_r6 : List LOper := [
  ⟨some 38,none,.bin .lss (.t 37) (.t 36)⟩]
def act_Check_r7 : List LOper := [
  ⟨some 39,none,.mv false (.t 37)⟩,
  ⟨some 40,none,.indexAddr 1 (.t 35) (.t 37)⟩,
  ⟨some 41,none,.load false false 1 (.t 40)⟩,
  ⟨some 3,none,.mv false (.t 39)⟩,
  ⟨some 4,none,.mv false (.t 41)⟩]
def act_Check_r8 : List LOper := [
  ⟨some 42,none,.mv false (.t 4)⟩,
  ⟨some 43,none,.fieldAddr 0 (.t 1)⟩,
  ⟨some 44,none,.load false false 1 (.t 43)⟩,
  ⟨some 45,none,.bin .geq (.t 42) (.t 44)⟩,
  ⟨some 46,none,.mv false (.t 45)⟩,
  ⟨some 47,some (46,false),.mv false (.t 4)⟩,
  ⟨some 48,some (46,false),.fieldAddr 3 (.t 1)⟩,
  ⟨some 49,some (46,false),.load false false 1 (.t 48)⟩,
  ⟨some 50,some (46,false),.lenL (.t 49)⟩,
  ⟨some 51,some (46,false),.bin .sub (.t 50) (.c (.int .i64 1))⟩,
  ⟨some 52,some (46,false),.call false 44 [(.t 51)]⟩,
  ⟨some 53,some (46,false),.bin .lss (.t 47) (.t 52)⟩,
  ⟨some 54,none,.pick (.t 46) (.c (.bool true)) (.t 53)⟩]
def act_Check_r9 : List LOper := [
  ⟨some 2,none,.mv false (.c (.int .i64 1))⟩]
def act_Check_r10 : List LOper := [
  ⟨some 55,none,.mv false (.t 4)⟩,
  ⟨some 56,none,.bin .neq (.t 55) (.c (.int .i64 (-1)))⟩,
  ⟨some 57,none,.mv false (.t 56)⟩,
  ⟨some 58,some (57,true),.fieldAddr 1 (.t 1)⟩,
  ⟨some 59,some (57,true),.load false false 1 (.t 58)⟩,
  ⟨some 60,some (57,true),.mv false (.t 3)⟩,
  ⟨some 61,some (57,true),.slc 1 (.t 59) none (some (.t 60)) none⟩,
  ⟨some 62,some (57,true),.mv false (.t 4)⟩,
  ⟨some 63,some (57,true),.call false 66 [(.t 61),(.t 62)]⟩,
  ⟨some 64,none,.pick (.t 57) (.t 63) (.c (.bool false))⟩]
def act_Check_r11 : List LOper := [
  ⟨some 2,none,.mv false (.c (.int .i64 10))⟩]
def act_Check_r12 : List LOper := [
  ⟨some 65,none,.bin .add (.t 37) (.c (.int .i64 1))⟩,
  ⟨some 37,none,.mv false (.t 65)⟩]
def act_Check_b0 : LCode := (.seq (.ops act_Check_r6) (.seq (.cond (.t 38) .skip (.exit 0)) (.seq (.block 1 (.seq (.ops act_Check_r7) (.seq (.seq (.ops act_Check_r8) (.cond (.t 54) (.seq (.ops act_Check_r9) .ret) .skip)) (.seq (.ops act_Check_r10) (.cond (.t 64) (.seq (.ops act_Check_r11) .ret) .skip))))) (.ops act_Check_r12))))
def act_Check_r13 : List LOper := [
  ⟨some 66,none,.fieldAddr 3 (.t 1)⟩,
  ⟨some 67,none,.load false false 1 (.t 66)⟩,
  ⟨some 68,none,.lenL (.t 67)⟩,
  ⟨some 69,none,.mv false (.c (.int .i64 0))⟩]
def act_Check_r14 : List LOper := [
  ⟨some 70,none,.bin .lss (.t 69) (.t 68)⟩]
def act_Check_r15 : List LOper := [
  ⟨some 71,none,.mv false (.t 69)⟩,
  ⟨some 72,none,.indexAddr 1 (.t 67) (.t 69)⟩,
  ⟨some 73,none,.load false false 1 (.t 72)⟩,
  ⟨some 5,none,.mv false (.t 71)⟩,
  ⟨some 6,none,.mv false (.t 73)⟩]
def act_Check_r16 : List LOper := [
  ⟨some 74,none,.mv false (.t 6)⟩,
  ⟨some 75,none,.bin .lss (.t 74) (.c (.int .i64 (-1)))⟩,
  ⟨some 76,none,.mv false (.t 75)⟩,
  ⟨some 77,some (76,false),.mv false (.t 6)⟩,
  ⟨some 78,some (76,false),.fieldAddr 0 (.t 1)⟩,
  ⟨some 79,some (76,false),.load false false 1 (.t 78)⟩,
  ⟨some 80,some (76,false),.bin .geq (.t 77) (.t 79)⟩,
  ⟨some 81,some (76,false),.mv false (.t 80)⟩,
  ⟨some 82,some (81,true),.mv false (.t 6)⟩,
  ⟨some 83,some (81,true),.bin .lss (.t 82) (.c (.int .i64 8))⟩,
  ⟨some 84,some (76,false),.pick (.t 81) (.t 83) (.c (.bool false))⟩,
  ⟨some 85,none,.pick (.t 76) (.c (.bool true)) (.t 84)⟩,
  ⟨some 86,none,.mv false (.t 85)⟩,
  ⟨some 87,some (86,false),.mv false (.t 6)⟩,
  ⟨some 88,some (86,false),.fieldAddr 1 (.t 1)⟩,
  ⟨some 89,some (86,false),.load false false 1 (.t 88)⟩,
  ⟨some 90,some (86,false),.lenL (.t 89)⟩,
  ⟨some 91,some (86,false),.bin .add (.c (.int .i64 8)) (.t 90)⟩,
  ⟨some 92,some (86,false),.bin .geq (.t 87) (.t 91)⟩,
  ⟨some 93,none,.pick (.t 86) (.c (.bool true)) (.t 92)⟩]
def act_Check_r17 : List LOper := [
  ⟨some 2,none,.mv false (.c (.int .i64 1))⟩]
def act_Check_r18 : List LOper := [
  ⟨some 94,none,.mv false (.t 6)⟩,
  ⟨some 95,none,.bin .neq (.t 94) (.c (.int .i64 (-1)))⟩,
  ⟨some 96,none,.mv false (.t 95)⟩,
  ⟨some 97,some (96,true),.fieldAddr 3 (.t 1)⟩,
  ⟨some 98,some (96,true),.load false false 1 (.t 97)⟩,
  ⟨some 99,some (96,true),.mv false (.t 5)⟩,
  ⟨some 100,some (96,true),.slc 1 (.t 98) none (some (.t 99)) none⟩,
  ⟨some 101,some (96,true),.mv false (.t 6)⟩,
  ⟨some 102,some (96,true),.call false 66 [(.t 100),(.t 101)]⟩,
  ⟨some 103,none,.pick (.t 96) (.t 102) (.c (.bool false))⟩]
def act_Check_r19 : List LOper := [
  ⟨some 2,none,.mv false (.c (.int .i64 10))⟩]
def act_Check_r20 : List LOper := [
  ⟨some 104,none,.bin .add (.t 69) (.c (.int .i64 1))⟩,
  ⟨some 69,none,.mv false (.t 104)⟩]
def act_Check_b1 : LCode := (.seq (.ops act_Check_r14) (.seq (.cond (.t 70) .skip (.exit 2)) (.seq (.block 3 (.seq (.ops act_Check_r15) (.seq (.seq (.ops act_Check_r16) (.cond (.t 93) (.seq (.ops act_Check_r17) .ret) .skip)) (.seq (.ops act_Check_r18) (.cond (.t 103) (.seq (.ops act_Check_r19) .ret) .skip))))) (.ops act_Check_r20))))
def act_Check_r21 : List LOper := [
  ⟨some 2,none,.mv false (.c (.int .i64 0))⟩]
def act_Check_f : LFunc := ⟨105,1,[.tmp 2],(.seq (.ops act_Check_r0) (.seq (.seq (.ops act_Check_r1) (.cond (.t 26) (.seq (.ops act_Check_r2) .ret) .skip)) (.seq (.seq (.ops act_Check_r3) (.cond (.t 33) (.seq (.ops act_Check_r4) .ret) .skip)) (.seq (.seq (.ops act_Check_r5) (.block 0 (.loop [1,35,36,37] act_Check_b0))) (.seq (.seq (.ops act_Check_r13) (.block 2 (.loop [1,67,68,69] act_Check_b1))) (.seq (.ops act_Check_r21) .ret))))))⟩
def act_Check_v : VFunc := ⟨act_Check_f,true,false,false⟩
theorem act_Check_ok : preFunc Try.prog ⟨[],[],[]⟩ Try.f36 [[1,35,36,37],[1,67,68,69]] = some act_Check_f := by kernel_rfl

-- gantry/act.Do
def act_Do_r0 : List LOper := [
  ⟨some 2,none,.box (.t 0)⟩,
  ⟨some 3,none,.box (.t 1)⟩,
  ⟨some 4,none,.alloc [.int .i64 0,.nilslice,.nilslice,.nilslice]⟩,
  ⟨some 5,none,.mv false (.c (.int .i64 0))⟩]
def act_Do_r1 : List LOper := [
  ⟨some 9,none,.load false true 4 (.t 2)⟩,
  ⟨some 10,none,.load false true 5 (.t 3)⟩,
  ⟨some 11,none,.call false 33 [(.t 9),(.t 10)]⟩,
  ⟨some 6,none,.mv false (.t 11)⟩]
def act_Do_r2 : List LOper := [
  ⟨some 12,none,.mv false (.t 6)⟩,
  ⟨some 13,none,.bin .neq (.t 12) (.c (.int .i64 0))⟩]
def act_Do_r3 : List LOper := [
  ⟨some 14,none,.build [.int .i64 0,.nilslice,.nilslice,.nilslice] []⟩,
  ⟨some 15,none,.mv false (.t 6)⟩,
  ⟨none,none,.store 4 (.t 4) (.t 14)⟩,
  ⟨some 5,none,.mv false (.t 15)⟩]
def act_Do_r4 : List LOper := [
  ⟨some 16,none,.load false true 4 (.t 2)⟩,
  ⟨some 17,none,.call false 14 [(.t 16)]⟩,
  ⟨some 7,none,.alloc [.int .i64 0,.nilslice,.nilslice,.nilslice]⟩,
  ⟨none,none,.store 4 (.t 7) (.t 17)⟩]
def act_Do_r5 : List LOper := [
  ⟨some 18,none,.fieldAddr 0 (.t 3)⟩,
  ⟨some 19,none,.load false false 1 (.t 18)⟩]
def act_Do_r6 : List LOper := [
  ⟨some 21,none,.bin .eql (.t 19) (.c (.int .i64 0))⟩,
  ⟨some 20,none,.mv false (.t 21)⟩]
def act_Do_r7 : List LOper := [
  ⟨some 22,none,.fieldAddr 3 (.t 7)⟩,
  ⟨some 23,none,.load false false 1 (.t 22)⟩,
  ⟨some 24,none,.fieldAddr 1 (.t 3)⟩,
  ⟨some 25,none,.load false false 1 (.t 24)⟩,
  ⟨some 26,none,.load false true 4 (.t 2)⟩,
  ⟨some 27,none,.load false true 5 (.t 3)⟩,
  ⟨some 28,none,.call true 68 [(.t 26),(.t 27)]⟩,
  ⟨some 29,none,.indexAddr 1 (.t 23) (.t 25)⟩,
  ⟨none,none,.store 1 (.t 29) (.t 28)⟩]
theorem act_Do_r7_d : drawC [0,1,0,4,0,0,48,127,255] [
  ⟨some 22,none,.fieldAddr 3 (.t 7)⟩,
  ⟨some 23,none,.load false false 1 (.t 22)⟩,
  ⟨some 24,none,.fieldAddr 1 (.t 3)⟩,
  ⟨some 25,none,.load false false 1 (.t 24)⟩,
  ⟨some 26,none,.load false true 4 (.t 2)⟩,
  ⟨some 27,none,.load false true 5 (.t 3)⟩,
  ⟨some 28,none,.call true 68 [(.t 26),(.t 27)]⟩,
  ⟨some 29,none,.indexAddr 1 (.t 23) (.t 25)⟩,
  ⟨none,none,.store 1 (.t 29) (.t 28)⟩] = true := by kernel_rfl
def act_Do_r8 : List LOper := [
  ⟨some 31,none,.bin .eql (.t 19) (.c (.int .i64 1))⟩,
  ⟨some 30,none,.mv false (.t 31)⟩]
def act_Do_r9 : List LOper := [
  ⟨some 32,none,.fieldAddr 1 (.t 7)⟩,
  ⟨some 33,none,.load false false 1 (.t 32)⟩,
  ⟨some 34,none,.fieldAddr 2 (.t 3)⟩,
  ⟨some 35,none,.load false false 1 (.t 34)⟩,
  ⟨some 36,none,.fieldAddr 1 (.t 3)⟩,
  ⟨some 37,none,.load false false 1 (.t 36)⟩,
  ⟨some 38,none,.call true 44 [(.t 37)]⟩,
  ⟨some 39,none,.indexAddr 1 (.t 33) (.t 35)⟩,
  ⟨none,none,.store 1 (.t 39) (.t 38)⟩]
theorem act_Do_r9_d : drawC [0,1,0,4,0,16,48,127,255] [
  ⟨some 32,none,.fieldAddr 1 (.t 7)⟩,
  ⟨some 33,none,.load false false 1 (.t 32)⟩,
  ⟨some 34,none,.fieldAddr 2 (.t 3)⟩,
  ⟨some 35,none,.load false false 1 (.t 34)⟩,
  ⟨some 36,none,.fieldAddr 1 (.t 3)⟩,
  ⟨some 37,none,.load false false 1 (.t 36)⟩,
  ⟨some 38,none,.call true 44 [(.t 37)]⟩,
  ⟨some 39,none,.indexAddr 1 (.t 33) (.t 35)⟩,
  ⟨none,none,.store 1 (.t 39) (.t 38)⟩] = true := by kernel_rfl
def act_Do_r10 : List LOper := [
  ⟨some 41,none,.bin .eql (.t 19) (.c (.int .i64 3))⟩,
  ⟨some 40,none,.mv false (.t 41)⟩]
def act_Do_r11 : List LOper := [
  ⟨some 42,none,.fieldAddr 2 (.t 7)⟩,
  ⟨some 43,none,.load false false 1 (.t 42)⟩,
  ⟨some 44,none,.fieldAddr 2 (.t 3)⟩,
  ⟨some 45,none,.load false false 1 (.t 44)⟩,
  ⟨some 46,none,.indexAddr 1 (.t 43) (.t 45)⟩,
  ⟨none,none,.store 1 (.t 46) (.c (.bool true))⟩]
def act_Do_r12 : List LOper := [
  ⟨some 48,none,.bin .eql (.t 19) (.c (.int .i64 2))⟩,
  ⟨some 47,none,.mv false (.t 48)⟩]
def act_Do_r13 : List LOper := [
  ⟨some 49,none,.load false true 4 (.t 2)⟩,
  ⟨some 50,none,.fieldAddr 1 (.t 3)⟩,
  ⟨some 51,none,.load false false 1 (.t 50)⟩,
  ⟨some 52,none,.call false 11 [(.t 49),(.t 51)]⟩,
  ⟨some 8,none,.mv false (.t 52)⟩]
def act_Do_r14 : List LOper := [
  ⟨some 53,none,.fieldAddr 1 (.t 7)⟩,
  ⟨some 54,none,.load false false 1 (.t 53)⟩,
  ⟨some 55,none,.mv false (.t 8)⟩,
  ⟨some 56,none,.fieldAddr 2 (.t 7)⟩,
  ⟨some 57,none,.load false false 1 (.t 56)⟩,
  ⟨some 58,none,.mv false (.t 8)⟩,
  ⟨some 59,none,.fieldAddr 3 (.t 3)⟩,
  ⟨some 60,none,.load false false 1 (.t 59)⟩,
  ⟨some 61,none,.indexAddr 1 (.t 54) (.t 55)⟩,
  ⟨none,none,.store 1 (.t 61) (.t 60)⟩,
  ⟨some 62,none,.indexAddr 1 (.t 57) (.t 58)⟩,
  ⟨none,none,.store 1 (.t 62) (.c (.bool false))⟩]
theorem act_Do_r14_d : drawC [0,1,0,0,8,0,0,64,199,455,1023,2047] [
  ⟨some 53,none,.fieldAddr 1 (.t 7)⟩,
  ⟨some 54,none,.load false false 1 (.t 53)⟩,
  ⟨some 55,none,.mv false (.t 8)⟩,
  ⟨some 56,none,.fieldAddr 2 (.t 7)⟩,
  ⟨some 57,none,.load false false 1 (.t 56)⟩,
  ⟨some 58,none,.mv false (.t 8)⟩,
  ⟨some 59,none,.fieldAddr 3 (.t 3)⟩,
  ⟨some 60,none,.load false false 1 (.t 59)⟩,
  ⟨some 61,none,.indexAddr 1 (.t 54) (.t 55)⟩,
  ⟨none,none,.store 1 (.t 61) (.t 60)⟩,
  ⟨some 62,none,.indexAddr 1 (.t 57) (.t 58)⟩,
  ⟨none,none,.store 1 (.t 62) (.c (.bool false))⟩] = false ∧ drawW [0,1,0,0,8,0,0,64,199,455,1023,2047] [
  ⟨some 53,none,.fieldAddr 1 (.t 7)⟩,
  ⟨some 54,none,.load false false 1 (.t 53)⟩,
  ⟨some 55,none,.mv false (.t 8)⟩,
  ⟨some 56,none,.fieldAddr 2 (.t 7)⟩,
  ⟨some 57,none,.load false false 1 (.t 56)⟩,
  ⟨some 58,none,.mv false (.t 8)⟩,
  ⟨some 59,none,.fieldAddr 3 (.t 3)⟩,
  ⟨some 60,none,.load false false 1 (.t 59)⟩,
  ⟨some 61,none,.indexAddr 1 (.t 54) (.t 55)⟩,
  ⟨none,none,.store 1 (.t 61) (.t 60)⟩,
  ⟨some 62,none,.indexAddr 1 (.t 57) (.t 58)⟩,
  ⟨none,none,.store 1 (.t 62) (.c (.bool false))⟩] = true := ⟨by kernel_rfl,by kernel_rfl⟩
def act_Do_r15 : List LOper := [
  ⟨some 63,none,.load false true 4 (.t 7)⟩,
  ⟨none,none,.store 4 (.t 4) (.t 63)⟩,
  ⟨some 5,none,.mv false (.c (.int .i64 0))⟩]
def act_Do_f : LFunc := ⟨64,2,[.cell 4 true 4,.tmp 5],(.seq (.ops act_Do_r0) (.seq (.seq (.ops act_Do_r1) (.seq (.ops act_Do_r2) (.cond (.t 13) (.seq (.ops act_Do_r3) .ret) .skip))) (.seq (.ops act_Do_r4) (.seq (.seq (.ops act_Do_r5) (.block 0 (.seq (.ops act_Do_r6) (.cond (.t 20) (.dops [0,1,0,4,0,0,48,127,255] act_Do_r7) (.seq (.ops act_Do_r8) (.cond (.t 30) (.dops [0,1,0,4,0,16,48,127,255] act_Do_r9) (.seq (.ops act_Do_r10) (.cond (.t 40) (.ops act_Do_r11) (.seq (.ops act_Do_r12) (.cond (.t 47) (.seq (.ops act_Do_r13) (.dops [0,1,0,0,8,0,0,64,199,455,1023,2047] act_Do_r14)) .skip)))))))))) (.seq (.ops act_Do_r15) .ret)))))⟩
def act_Do_v : VFunc := ⟨act_Do_f,true,false,false⟩
theorem act_Do_ok : preFunc Try.prog ⟨[],[],[28,38]⟩ Try.f38 [] = some act_Do_f := by kernel_rfl

-- (*gantry/gantmake.Stream).Next
def gantmake_Stream_Next_r0 : List LOper := [
  ⟨some 4,none,.mv false (.c (.int .i64 0))⟩]
def gantmake_Stream_Next_r1 : List LOper := [
  ⟨some 6,none,.mv false (.t 0)⟩,
  ⟨some 7,none,.nilchk (.t 6)⟩,
  ⟨some 8,none,.fieldAddr 0 (.t 7)⟩,
  ⟨some 9,none,.load false false 1 (.t 8)⟩,
  ⟨some 10,none,.lenL (.t 9)⟩,
  ⟨some 11,none,.bin .eql (.t 10) (.c (.int .i64 0))⟩,
  ⟨some 12,none,.mv false (.t 11)⟩,
  ⟨some 13,some (12,false),.mv false (.t 1)⟩,
  ⟨some 14,some (12,false),.bin .lss (.t 13) (.c (.int .i64 1))⟩,
  ⟨some 15,none,.pick (.t 12) (.c (.bool true)) (.t 14)⟩]
def gantmake_Stream_Next_r2 : List LOper := [
  ⟨some 4,none,.mv false (.c (.int .i64 0))⟩]
def gantmake_Stream_Next_r3 : List LOper := [
  ⟨some 16,none,.mv false (.t 0)⟩,
  ⟨some 17,none,.nilchk (.t 16)⟩,
  ⟨some 18,none,.fieldAddr 0 (.t 17)⟩,
  ⟨some 19,none,.load false false 1 (.t 18)⟩,
  ⟨some 20,none,.indexAddr 1 (.t 19) (.c (.int .i64 0))⟩,
  ⟨some 21,none,.load false false 1 (.t 20)⟩,
  ⟨some 5,none,.mv false (.t 21)⟩]
def gantmake_Stream_Next_r4 : List LOper := [
  ⟨some 22,none,.mv false (.t 0)⟩,
  ⟨some 23,none,.mv false (.t 0)⟩,
  ⟨some 24,none,.nilchk (.t 23)⟩,
  ⟨some 25,none,.fieldAddr 0 (.t 24)⟩,
  ⟨some 26,none,.load false false 1 (.t 25)⟩,
  ⟨some 27,none,.slc 1 (.t 26) (some (.c (.int .i64 1))) none none⟩,
  ⟨some 28,none,.nilchk (.t 22)⟩,
  ⟨some 29,none,.fieldAddr 0 (.t 28)⟩,
  ⟨none,none,.store 1 (.t 29) (.t 27)⟩]
def gantmake_Stream_Next_r5 : List LOper := [
  ⟨some 30,none,.mv false (.t 5)⟩,
  ⟨some 31,none,.mv false (.t 1)⟩,
  ⟨some 32,none,.call false 30 [(.t 30),(.t 31)]⟩,
  ⟨some 4,none,.mv false (.t 32)⟩]
def gantmake_Stream_Next_f : LFunc := ⟨33,2,[.tmp 4],(.seq (.ops gantmake_Stream_Next_r0) (.seq (.seq (.ops gantmake_Stream_Next_r1) (.cond (.t 15) (.seq (.ops gantmake_Stream_Next_r2) .ret) .skip)) (.seq (.ops gantmake_Stream_Next_r3) (.seq (.ops gantmake_Stream_Next_r4) (.seq (.ops gantmake_Stream_Next_r5) .ret)))))⟩
def gantmake_Stream_Next_v : VFunc := ⟨gantmake_Stream_Next_f,false,false,false⟩
theorem gantmake_Stream_Next_ok : preFunc Try.prog ⟨[],[],[]⟩ Try.f41 [] = some gantmake_Stream_Next_f := by kernel_rfl

-- gantry/gantmake.Of
def gantmake_Of_r0 : List LOper := [
  ⟨some 4,none,.alloc [.bool false,.str [],.str []]⟩]
def gantmake_Of_r1 : List LOper := [
  ⟨some 7,none,.mv false (.t 0)⟩,
  ⟨some 8,none,.mv false (.t 0)⟩,
  ⟨some 9,none,.un .neg (.t 8)⟩,
  ⟨some 10,none,.max2 [(.t 7),(.t 9)]⟩,
  ⟨some 11,none,.mv false (.t 1)⟩,
  ⟨some 5,none,.mv false (.t 10)⟩,
  ⟨some 6,none,.mv false (.t 11)⟩]
def gantmake_Of_r2 : List LOper := [
  ⟨some 12,none,.mv false (.t 6)⟩,
  ⟨some 13,none,.bin .gtr (.t 12) (.c (.int .i64 0))⟩]
def gantmake_Of_r3 : List LOper := [
  ⟨some 14,none,.mv false (.t 6)⟩,
  ⟨some 15,none,.mv false (.t 5)⟩,
  ⟨some 16,none,.mv false (.t 6)⟩,
  ⟨some 17,none,.bin .rem (.t 15) (.t 16)⟩,
  ⟨some 5,none,.mv false (.t 14)⟩,
  ⟨some 6,none,.mv false (.t 17)⟩]
theorem gantmake_Of_r3_d : drawC [0,0,0,6,3,31] [
  ⟨some 14,none,.mv false (.t 6)⟩,
  ⟨some 15,none,.mv false (.t 5)⟩,
  ⟨some 16,none,.mv false (.t 6)⟩,
  ⟨some 17,none,.bin .rem (.t 15) (.t 16)⟩,
  ⟨some 5,none,.mv false (.t 14)⟩,
  ⟨some 6,none,.mv false (.t 17)⟩] = true := by kernel_rfl
def gantmake_Of_b0 : LCode := (.seq (.seq (.ops gantmake_Of_r2) (.cond (.t 13) .skip (.exit 0))) (.block 1 (.dops [0,0,0,6,3,31] gantmake_Of_r3)))
def gantmake_Of_r4 : List LOper := [
  ⟨some 18,none,.mv false (.t 0)⟩,
  ⟨some 19,none,.mv false (.t 5)⟩,
  ⟨some 20,none,.bin .quo (.t 18) (.t 19)⟩,
  ⟨some 21,none,.mv false (.t 1)⟩,
  ⟨some 22,none,.mv false (.t 5)⟩,
  ⟨some 23,none,.bin .quo (.t 21) (.t 22)⟩,
  ⟨some 0,none,.mv false (.t 20)⟩,
  ⟨some 1,none,.mv false (.t 23)⟩]
theorem gantmake_Of_r4_d : drawC [0,0,3,0,0,24,7,127] [
  ⟨some 18,none,.mv false (.t 0)⟩,
  ⟨some 19,none,.mv false (.t 5)⟩,
  ⟨some 20,none,.bin .quo (.t 18) (.t 19)⟩,
  ⟨some 21,none,.mv false (.t 1)⟩,
  ⟨some 22,none,.mv false (.t 5)⟩,
  ⟨some 23,none,.bin .quo (.t 21) (.t 22)⟩,
  ⟨some 0,none,.mv false (.t 20)⟩,
  ⟨some 1,none,.mv false (.t 23)⟩] = true := by kernel_rfl
def gantmake_Of_r5 : List LOper := [
  ⟨some 24,none,.mv false (.t 0)⟩,
  ⟨some 25,none,.bin .lss (.t 24) (.c (.int .i64 0))⟩,
  ⟨some 26,none,.mv false (.t 0)⟩,
  ⟨some 27,none,.mv false (.t 0)⟩,
  ⟨some 28,none,.un .neg (.t 27)⟩,
  ⟨some 29,none,.max2 [(.t 26),(.t 28)]⟩,
  ⟨some 30,none,.call false 70 [(.t 29)]⟩,
  ⟨some 31,none,.mv false (.t 1)⟩,
  ⟨some 32,none,.call false 70 [(.t 31)]⟩,
  ⟨some 33,none,.build [.bool false,.str [],.str []] [(0,1,(.t 25)),(1,1,(.t 30)),(2,1,(.t 32))]⟩,
  ⟨none,none,.store 3 (.t 4) (.t 33)⟩]
def gantmake_Of_f : LFunc := ⟨34,2,[.cell 4 true 3],(.seq (.ops gantmake_Of_r0) (.seq (.ops gantmake_Of_r1) (.seq (.block 0 (.loop [0,1,4,5,6] gantmake_Of_b0)) (.seq (.dops [0,0,3,0,0,24,7,127] gantmake_Of_r4) (.seq (.ops gantmake_Of_r5) .ret)))))⟩
def gantmake_Of_v : VFunc := ⟨gantmake_Of_f,true,false,false⟩
theorem gantmake_Of_ok : preFunc Try.prog ⟨[],[],[]⟩ Try.f42 [[0,1,4,5,6]] = some gantmake_Of_f := by kernel_rfl

-- slices.Index[[]int,int]
def slices_Index_intint_r0 : List LOper := [
  ⟨some 4,none,.mv false (.c (.int .i64 0))⟩]
def slices_Index_intint_r1 : List LOper := [
  ⟨some 6,none,.mv false (.t 0)⟩,
  ⟨some 7,none,.lenL (.t 6)⟩,
  ⟨some 8,none,.mv false (.c (.int .i64 0))⟩]
def slices_Index_intint_r2 : List LOper := [
  ⟨some 9,none,.bin .lss (.t 8) (.t 7)⟩]
def slices_Index_intint_r3 : List LOper := [
  ⟨some 10,none,.mv false (.t 8)⟩,
  ⟨some 5,none,.mv false (.t 10)⟩]
def slices_Index_intint_r4 : List LOper := [
  ⟨some 11,none,.mv false (.t 1)⟩,
  ⟨some 12,none,.mv false (.t 0)⟩,
  ⟨some 13,none,.mv false (.t 5)⟩,
  ⟨some 14,none,.indexAddr 1 (.t 12) (.t 13)⟩,
  ⟨some 15,none,.load false false 1 (.t 14)⟩,
  ⟨some 16,none,.bin .eql (.t 11) (.t 15)⟩]
def slices_Index_intint_r5 : List LOper := [
  ⟨some 17,none,.mv false (.t 5)⟩,
  ⟨some 4,none,.mv false (.t 17)⟩]
def slices_Index_intint_r6 : List LOper := [
  ⟨some 18,none,.bin .add (.t 8) (.c (.int .i64 1))⟩,
  ⟨some 8,none,.mv false (.t 18)⟩]
def slices_Index_intint_b0 : LCode := (.seq (.ops slices_Index_intint_r2) (.seq (.cond (.t 9) .skip (.exit 0)) (.seq (.block 1 (.seq (.ops slices_Index_intint_r3) (.seq (.ops slices_Index_intint_r4) (.cond (.t 16) (.seq (.ops slices_Index_intint_r5) .ret) .skip)))) (.ops slices_Index_intint_r6))))
def slices_Index_intint_r7 : List LOper := [
  ⟨some 4,none,.mv false (.c (.int .i64 (-1)))⟩]
def slices_Index_intint_f : LFunc := ⟨19,2,[.tmp 4],(.seq (.ops slices_Index_intint_r0) (.seq (.seq (.ops slices_Index_intint_r1) (.block 0 (.loop [0,1,7,8] slices_Index_intint_b0))) (.seq (.ops slices_Index_intint_r7) .ret)))⟩
def slices_Index_intint_v : VFunc := ⟨slices_Index_intint_f,true,false,false⟩
theorem slices_Index_intint_ok : preFunc Try.prog ⟨[],[],[]⟩ Try.f43 [[0,1,7,8]] = some slices_Index_intint_f := by kernel_rfl

-- gantry/act.Held
def act_Held_r0 : List LOper := [
  ⟨some 2,none,.mv false (.c (.int .i64 0))⟩]
def act_Held_r1 : List LOper := [
  ⟨some 3,none,.mv false (.t 0)⟩,
  ⟨some 4,none,.bin .sub (.c (.int .i64 (-2))) (.t 3)⟩,
  ⟨some 2,none,.mv false (.t 4)⟩]
def act_Held_f : LFunc := ⟨5,1,[.tmp 2],(.seq (.ops act_Held_r0) (.seq (.ops act_Held_r1) .ret))⟩
def act_Held_v : VFunc := ⟨act_Held_f,true,false,false⟩
theorem act_Held_ok : preFunc Try.prog ⟨[],[],[]⟩ Try.f44 [] = some act_Held_f := by kernel_rfl

-- slices.Clone[[]int,int]
def slices_Clone_intint_r0 : List LOper := [
  ⟨some 2,none,.mv false (.c (.nilslice))⟩]
def slices_Clone_intint_r1 : List LOper := [
  ⟨some 3,none,.mv false (.t 0)⟩,
  ⟨some 4,none,.eqv false .slice (.t 3) (.c (.nilslice))⟩]
def slices_Clone_intint_r2 : List LOper := [
  ⟨some 2,none,.mv false (.c (.nilslice))⟩]
def slices_Clone_intint_r3 : List LOper := [
  ⟨some 5,none,.bslice true 0 1 [] []⟩,
  ⟨some 6,none,.mv false (.t 0)⟩,
  ⟨some 7,none,.append false 1 8 (.t 5) (.t 6)⟩,
  ⟨some 2,none,.mv false (.t 7)⟩]
def slices_Clone_intint_f : LFunc := ⟨8,1,[.tmp 2],(.seq (.ops slices_Clone_intint_r0) (.seq (.seq (.ops slices_Clone_intint_r1) (.cond (.t 4) (.seq (.ops slices_Clone_intint_r2) .ret) .skip)) (.seq (.ops slices_Clone_intint_r3) .ret)))⟩
def slices_Clone_intint_v : VFunc := ⟨(cloneM false 1 8),false,false,true⟩
theorem slices_Clone_intint_ok : preFunc Try.prog ⟨[],[5,7],[]⟩ Try.f47 [] = some slices_Clone_intint_f := by kernel_rfl

-- slices.Clone[[]bool,bool]
def slices_Clone_boolbool_r0 : List LOper := [
  ⟨some 2,none,.mv false (.c (.nilslice))⟩]
def slices_Clone_boolbool_r1 : List LOper := [
  ⟨some 3,none,.mv false (.t 0)⟩,
  ⟨some 4,none,.eqv false .slice (.t 3) (.c (.nilslice))⟩]
def slices_Clone_boolbool_r2 : List LOper := [
  ⟨some 2,none,.mv false (.c (.nilslice))⟩]
def slices_Clone_boolbool_r3 : List LOper := [
  ⟨some 5,none,.bslice true 0 1 [] []⟩,
  ⟨some 6,none,.mv false (.t 0)⟩,
  ⟨some 7,none,.append false 1 1 (.t 5) (.t 6)⟩,
  ⟨some 2,none,.mv false (.t 7)⟩]
def slices_Clone_boolbool_f : LFunc := ⟨8,1,[.tmp 2],(.seq (.ops slices_Clone_boolbool_r0) (.seq (.seq (.ops slices_Clone_boolbool_r1) (.cond (.t 4) (.seq (.ops slices_Clone_boolbool_r2) .ret) .skip)) (.seq (.ops slices_Clone_boolbool_r3) .ret)))⟩
def slices_Clone_boolbool_v : VFunc := ⟨(cloneM false 1 1),false,false,true⟩
theorem slices_Clone_boolbool_ok : preFunc Try.prog ⟨[],[5,7],[]⟩ Try.f48 [] = some slices_Clone_boolbool_f := by kernel_rfl

-- slices.Equal[[]int,int]
def slices_Equal_intint_r0 : List LOper := [
  ⟨some 4,none,.mv false (.c (.bool false))⟩]
def slices_Equal_intint_r1 : List LOper := [
  ⟨some 6,none,.mv false (.t 0)⟩,
  ⟨some 7,none,.lenL (.t 6)⟩,
  ⟨some 8,none,.mv false (.t 1)⟩,
  ⟨some 9,none,.lenL (.t 8)⟩,
  ⟨some 10,none,.bin .neq (.t 7) (.t 9)⟩]
def slices_Equal_intint_r2 : List LOper := [
  ⟨some 4,none,.mv false (.c (.bool false))⟩]
def slices_Equal_intint_r3 : List LOper := [
  ⟨some 11,none,.mv false (.t 0)⟩,
  ⟨some 12,none,.lenL (.t 11)⟩,
  ⟨some 13,none,.mv false (.c (.int .i64 0))⟩]
def slices_Equal_intint_r4 : List LOper := [
  ⟨some 14,none,.bin .lss (.t 13) (.t 12)⟩]
def slices_Equal_intint_r5 : List LOper := [
  ⟨some 15,none,.mv false (.t 13)⟩,
  ⟨some 5,none,.mv false (.t 15)⟩]
def slices_Equal_intint_r6 : List LOper := [
  ⟨some 16,none,.mv false (.t 0)⟩,
  ⟨some 17,none,.mv false (.t 5)⟩,
  ⟨some 18,none,.indexAddr 1 (.t 16) (.t 17)⟩,
  ⟨some 19,none,.load false false 1 (.t 18)⟩,
  ⟨some 20,none,.mv false (.t 1)⟩,
  ⟨some 21,none,.mv false (.t 5)⟩,
  ⟨some 22,none,.indexAddr 1 (.t 20) (.t 21)⟩,
  ⟨some 23,none,.load false false 1 (.t 22)⟩,
  ⟨some 24,none,.bin .neq (.t 19) (.t 23)⟩]
theorem slices_Equal_intint_r6_d : drawC [0,0,3,7,0,0,48,112,255] [
  ⟨some 16,none,.mv false (.t 0)⟩,
  ⟨some 17,none,.mv false (.t 5)⟩,
  ⟨some 18,none,.indexAddr 1 (.t 16) (.t 17)⟩,
  ⟨some 19,none,.load false false 1 (.t 18)⟩,
  ⟨some 20,none,.mv false (.t 1)⟩,
  ⟨some 21,none,.mv false (.t 5)⟩,
  ⟨some 22,none,.indexAddr 1 (.t 20) (.t 21)⟩,
  ⟨some 23,none,.load false false 1 (.t 22)⟩,
  ⟨some 24,none,.bin .neq (.t 19) (.t 23)⟩] = true := by kernel_rfl
def slices_Equal_intint_r7 : List LOper := [
  ⟨some 4,none,.mv false (.c (.bool false))⟩]
def slices_Equal_intint_r8 : List LOper := [
  ⟨some 25,none,.bin .add (.t 13) (.c (.int .i64 1))⟩,
  ⟨some 13,none,.mv false (.t 25)⟩]
def slices_Equal_intint_b0 : LCode := (.seq (.ops slices_Equal_intint_r4) (.seq (.cond (.t 14) .skip (.exit 0)) (.seq (.block 1 (.seq (.ops slices_Equal_intint_r5) (.seq (.dops [0,0,3,7,0,0,48,112,255] slices_Equal_intint_r6) (.cond (.t 24) (.seq (.ops slices_Equal_intint_r7) .ret) .skip)))) (.ops slices_Equal_intint_r8))))
def slices_Equal_intint_r9 : List LOper := [
  ⟨some 4,none,.mv false (.c (.bool true))⟩]
def slices_Equal_intint_f : LFunc := ⟨26,2,[.tmp 4],(.seq (.ops slices_Equal_intint_r0) (.seq (.seq (.ops slices_Equal_intint_r1) (.cond (.t 10) (.seq (.ops slices_Equal_intint_r2) .ret) .skip)) (.seq (.seq (.ops slices_Equal_intint_r3) (.block 0 (.loop [0,1,12,13] slices_Equal_intint_b0))) (.seq (.ops slices_Equal_intint_r9) .ret))))⟩
def slices_Equal_intint_v : VFunc := ⟨slices_Equal_intint_f,true,false,false⟩
theorem slices_Equal_intint_ok : preFunc Try.prog ⟨[],[],[]⟩ Try.f49 [[0,1,12,13]] = some slices_Equal_intint_f := by kernel_rfl

-- slices.Equal[[]bool,bool]
def slices_Equal_boolbool_r0 : List LOper := [
  ⟨some 4,none,.mv false (.c (.bool false))⟩]
def slices_Equal_boolbool_r1 : List LOper := [
  ⟨some 6,none,.mv false (.t 0)⟩,
  ⟨some 7,none,.lenL (.t 6)⟩,
  ⟨some 8,none,.mv false (.t 1)⟩,
  ⟨some 9,none,.lenL (.t 8)⟩,
  ⟨some 10,none,.bin .neq (.t 7) (.t 9)⟩]
def slices_Equal_boolbool_r2 : List LOper := [
  ⟨some 4,none,.mv false (.c (.bool false))⟩]
def slices_Equal_boolbool_r3 : List LOper := [
  ⟨some 11,none,.mv false (.t 0)⟩,
  ⟨some 12,none,.lenL (.t 11)⟩,
  ⟨some 13,none,.mv false (.c (.int .i64 0))⟩]
def slices_Equal_boolbool_r4 : List LOper := [
  ⟨some 14,none,.bin .lss (.t 13) (.t 12)⟩]
def slices_Equal_boolbool_r5 : List LOper := [
  ⟨some 15,none,.mv false (.t 13)⟩,
  ⟨some 5,none,.mv false (.t 15)⟩]
def slices_Equal_boolbool_r6 : List LOper := [
  ⟨some 16,none,.mv false (.t 0)⟩,
  ⟨some 17,none,.mv false (.t 5)⟩,
  ⟨some 18,none,.indexAddr 1 (.t 16) (.t 17)⟩,
  ⟨some 19,none,.load false false 1 (.t 18)⟩,
  ⟨some 20,none,.mv false (.t 1)⟩,
  ⟨some 21,none,.mv false (.t 5)⟩,
  ⟨some 22,none,.indexAddr 1 (.t 20) (.t 21)⟩,
  ⟨some 23,none,.load false false 1 (.t 22)⟩,
  ⟨some 24,none,.eqv true .bool (.t 19) (.t 23)⟩]
theorem slices_Equal_boolbool_r6_d : drawC [0,0,3,7,0,0,48,112,255] [
  ⟨some 16,none,.mv false (.t 0)⟩,
  ⟨some 17,none,.mv false (.t 5)⟩,
  ⟨some 18,none,.indexAddr 1 (.t 16) (.t 17)⟩,
  ⟨some 19,none,.load false false 1 (.t 18)⟩,
  ⟨some 20,none,.mv false (.t 1)⟩,
  ⟨some 21,none,.mv false (.t 5)⟩,
  ⟨some 22,none,.indexAddr 1 (.t 20) (.t 21)⟩,
  ⟨some 23,none,.load false false 1 (.t 22)⟩,
  ⟨some 24,none,.eqv true .bool (.t 19) (.t 23)⟩] = true := by kernel_rfl
def slices_Equal_boolbool_r7 : List LOper := [
  ⟨some 4,none,.mv false (.c (.bool false))⟩]
def slices_Equal_boolbool_r8 : List LOper := [
  ⟨some 25,none,.bin .add (.t 13) (.c (.int .i64 1))⟩,
  ⟨some 13,none,.mv false (.t 25)⟩]
def slices_Equal_boolbool_b0 : LCode := (.seq (.ops slices_Equal_boolbool_r4) (.seq (.cond (.t 14) .skip (.exit 0)) (.seq (.block 1 (.seq (.ops slices_Equal_boolbool_r5) (.seq (.dops [0,0,3,7,0,0,48,112,255] slices_Equal_boolbool_r6) (.cond (.t 24) (.seq (.ops slices_Equal_boolbool_r7) .ret) .skip)))) (.ops slices_Equal_boolbool_r8))))
def slices_Equal_boolbool_r9 : List LOper := [
  ⟨some 4,none,.mv false (.c (.bool true))⟩]
def slices_Equal_boolbool_f : LFunc := ⟨26,2,[.tmp 4],(.seq (.ops slices_Equal_boolbool_r0) (.seq (.seq (.ops slices_Equal_boolbool_r1) (.cond (.t 10) (.seq (.ops slices_Equal_boolbool_r2) .ret) .skip)) (.seq (.seq (.ops slices_Equal_boolbool_r3) (.block 0 (.loop [0,1,12,13] slices_Equal_boolbool_b0))) (.seq (.ops slices_Equal_boolbool_r9) .ret))))⟩
def slices_Equal_boolbool_v : VFunc := ⟨slices_Equal_boolbool_f,true,false,false⟩
theorem slices_Equal_boolbool_ok : preFunc Try.prog ⟨[],[],[]⟩ Try.f50 [[0,1,12,13]] = some slices_Equal_boolbool_f := by kernel_rfl

-- gantry/act.Start
def act_Start_r0 : List LOper := [
  ⟨some 1,none,.box (.t 0)⟩,
  ⟨some 2,none,.alloc [.int .i64 0,.nilslice,.nilslice,.nilslice]⟩]
def act_Start_r1 : List LOper := [
  ⟨some 4,none,.fieldAddr 0 (.t 1)⟩,
  ⟨some 5,none,.load false false 1 (.t 4)⟩,
  ⟨some 6,none,.lenL (.t 5)⟩,
  ⟨some 7,none,.bin .gtr (.t 6) (.c (.int .i64 4))⟩,
  ⟨some 8,none,.mv false (.t 7)⟩,
  ⟨some 9,some (8,false),.fieldAddr 2 (.t 1)⟩,
  ⟨some 10,some (8,false),.load false false 1 (.t 9)⟩,
  ⟨some 11,some (8,false),.lenL (.t 10)⟩,
  ⟨some 12,some (8,false),.bin .gtr (.t 11) (.c (.int .i64 6))⟩,
  ⟨some 13,none,.pick (.t 8) (.c (.bool true)) (.t 12)⟩,
  ⟨some 14,none,.mv false (.t 13)⟩,
  ⟨some 15,some (14,false),.fieldAddr 3 (.t 1)⟩,
  ⟨some 16,some (14,false),.load false false 1 (.t 15)⟩,
  ⟨some 17,some (14,false),.lenL (.t 16)⟩,
  ⟨some 18,some (14,false),.bin .gtr (.t 17) (.c (.int .i64 8))⟩,
  ⟨some 19,none,.pick (.t 14) (.c (.bool true)) (.t 18)⟩]
def act_Start_r2 : List LOper := [
  ⟨some 20,none,.build [.int .i64 0,.nilslice,.nilslice,.nilslice] []⟩,
  ⟨none,none,.store 4 (.t 2) (.t 20)⟩]
def act_Start_r3 : List LOper := [
  ⟨some 21,none,.fieldAddr 3 (.t 1)⟩,
  ⟨some 22,none,.load false false 1 (.t 21)⟩,
  ⟨some 23,none,.lenL (.t 22)⟩,
  ⟨some 24,none,.fieldAddr 2 (.t 1)⟩,
  ⟨some 25,none,.load false false 1 (.t 24)⟩,
  ⟨some 26,none,.lenL (.t 25)⟩,
  ⟨some 27,none,.make false 1 1 [.bool false] (.t 26) (.t 26)⟩,
  ⟨some 28,none,.build [.int .i64 0,.nilslice,.nilslice,.nilslice] [(0,1,(.t 23)),(2,1,(.t 27))]⟩,
  ⟨some 3,none,.alloc [.int .i64 0,.nilslice,.nilslice,.nilslice]⟩,
  ⟨none,none,.store 4 (.t 3) (.t 28)⟩]
theorem act_Start_r3_d : drawC [0,1,3,0,8,24,56,127,0,511] [
  ⟨some 21,none,.fieldAddr 3 (.t 1)⟩,
  ⟨some 22,none,.load false false 1 (.t 21)⟩,
  ⟨some 23,none,.lenL (.t 22)⟩,
  ⟨some 24,none,.fieldAddr 2 (.t 1)⟩,
  ⟨some 25,none,.load false false 1 (.t 24)⟩,
  ⟨some 26,none,.lenL (.t 25)⟩,
  ⟨some 27,none,.make false 1 1 [.bool false] (.t 26) (.t 26)⟩,
  ⟨some 28,none,.build [.int .i64 0,.nilslice,.nilslice,.nilslice] [(0,1,(.t 23)),(2,1,(.t 27))]⟩,
  ⟨some 3,none,.alloc [.int .i64 0,.nilslice,.nilslice,.nilslice]⟩,
  ⟨none,none,.store 4 (.t 3) (.t 28)⟩] = false ∧ drawW [0,1,3,0,8,24,56,127,0,511] [
  ⟨some 21,none,.fieldAddr 3 (.t 1)⟩,
  ⟨some 22,none,.load false false 1 (.t 21)⟩,
  ⟨some 23,none,.lenL (.t 22)⟩,
  ⟨some 24,none,.fieldAddr 2 (.t 1)⟩,
  ⟨some 25,none,.load false false 1 (.t 24)⟩,
  ⟨some 26,none,.lenL (.t 25)⟩,
  ⟨some 27,none,.make false 1 1 [.bool false] (.t 26) (.t 26)⟩,
  ⟨some 28,none,.build [.int .i64 0,.nilslice,.nilslice,.nilslice] [(0,1,(.t 23)),(2,1,(.t 27))]⟩,
  ⟨some 3,none,.alloc [.int .i64 0,.nilslice,.nilslice,.nilslice]⟩,
  ⟨none,none,.store 4 (.t 3) (.t 28)⟩] = true := ⟨by kernel_rfl,by kernel_rfl⟩
def act_Start_r4 : List LOper := [
  ⟨some 29,none,.fieldAddr 2 (.t 1)⟩,
  ⟨some 30,none,.load false false 1 (.t 29)⟩,
  ⟨some 31,none,.lenL (.t 30)⟩,
  ⟨some 32,none,.mv false (.c (.int .i64 0))⟩]
def act_Start_r5 : List LOper := [
  ⟨some 33,none,.bin .lss (.t 32) (.t 31)⟩]
def act_Start_r6 : List LOper := [
  ⟨some 34,none,.fieldAddr 1 (.t 3)⟩,
  ⟨some 35,none,.load true false 1 (.t 34)⟩,
  ⟨some 36,none,.bslice false 1 1 [.int .i64 0] [(0,1,(.c (.int .i64 (-1))))]⟩,
  ⟨some 37,none,.append true 1 8 (.t 35) (.t 36)⟩,
  ⟨some 38,none,.fieldAddr 1 (.t 3)⟩,
  ⟨none,none,.store 1 (.t 38) (.t 37)⟩]
def act_Start_r7 : List LOper := [
  ⟨some 39,none,.bin .add (.t 32) (.c (.int .i64 1))⟩,
  ⟨some 32,none,.mv false (.t 39)⟩]
def act_Start_b0 : LCode := (.seq (.ops act_Start_r5) (.seq (.cond (.t 33) .skip (.exit 0)) (.seq (.block 1 (.ops act_Start_r6)) (.ops act_Start_r7))))
def act_Start_r8 : List LOper := [
  ⟨some 40,none,.fieldAddr 0 (.t 1)⟩,
  ⟨some 41,none,.load false false 1 (.t 40)⟩,
  ⟨some 42,none,.lenL (.t 41)⟩,
  ⟨some 43,none,.mv false (.c (.int .i64 0))⟩]
def act_Start_r9 : List LOper := [
  ⟨some 44,none,.bin .lss (.t 43) (.t 42)⟩]
def act_Start_r10 : List LOper := [
  ⟨some 45,none,.fieldAddr 3 (.t 3)⟩,
  ⟨some 46,none,.load true false 1 (.t 45)⟩,
  ⟨some 47,none,.bslice false 1 1 [.int .i64 0] [(0,1,(.c (.int .i64 (-1))))]⟩,
  ⟨some 48,none,.append true 1 8 (.t 46) (.t 47)⟩,
  ⟨some 49,none,.fieldAddr 3 (.t 3)⟩,
  ⟨none,none,.store 1 (.t 49) (.t 48)⟩]
def act_Start_r11 : List LOper := [
  ⟨some 50,none,.bin .add (.t 43) (.c (.int .i64 1))⟩,
  ⟨some 43,none,.mv false (.t 50)⟩]
def act_Start_b1 : LCode := (.seq (.ops act_Start_r9) (.seq (.cond (.t 44) .skip (.exit 2)) (.seq (.block 3 (.ops act_Start_r10)) (.ops act_Start_r11))))
def act_Start_r12 : List LOper := [
  ⟨some 51,none,.load false true 4 (.t 3)⟩,
  ⟨none,none,.store 4 (.t 2) (.t 51)⟩]
def act_Start_f : LFunc := ⟨52,1,[.cell 2 true 4],(.seq (.ops act_Start_r0) (.seq (.seq (.ops act_Start_r1) (.cond (.t 19) (.seq (.ops act_Start_r2) .ret) .skip)) (.seq (.dops [0,1,3,0,8,24,56,127,0,511] act_Start_r3) (.seq (.seq (.ops act_Start_r4) (.block 0 (.loop [1,2,3,31,32] act_Start_b0))) (.seq (.seq (.ops act_Start_r8) (.block 2 (.loop [2,3,42,43] act_Start_b1))) (.seq (.ops act_Start_r12) .ret))))))⟩
def act_Start_v : VFunc := ⟨act_Start_f,true,false,false⟩
theorem act_Start_ok : preFunc Try.prog ⟨[35,46],[],[27]⟩ Try.f51 [[1,2,3,31,32],[2,3,42,43]] = some act_Start_f := by kernel_rfl

-- gantry/act.Form
def act_Form_r0 : List LOper := [
  ⟨some 1,none,.box (.t 0)⟩,
  ⟨some 2,none,.mv false (.c (.bool false))⟩]
def act_Form_r1 : List LOper := [
  ⟨some 6,none,.fieldAddr 2 (.t 1)⟩,
  ⟨some 7,none,.load false false 1 (.t 6)⟩,
  ⟨some 8,none,.bin .geq (.t 7) (.c (.int .i64 0))⟩,
  ⟨some 9,none,.fieldAddr 3 (.t 1)⟩,
  ⟨some 10,none,.load false false 1 (.t 9)⟩,
  ⟨some 11,none,.bin .geq (.t 10) (.c (.int .i64 0))⟩,
  ⟨some 12,none,.fieldAddr 4 (.t 1)⟩,
  ⟨some 13,none,.load false false 1 (.t 12)⟩,
  ⟨some 14,none,.bin .neq (.t 13) (.c (.int .i64 0))⟩,
  ⟨some 3,none,.mv false (.t 8)⟩,
  ⟨some 4,none,.mv false (.t 11)⟩,
  ⟨some 5,none,.mv false (.t 14)⟩]
theorem act_Form_r1_d : drawC [0,1,3,0,8,24,0,64,192,7,575,2047] [
  ⟨some 6,none,.fieldAddr 2 (.t 1)⟩,
  ⟨some 7,none,.load false false 1 (.t 6)⟩,
  ⟨some 8,none,.bin .geq (.t 7) (.c (.int .i64 0))⟩,
  ⟨some 9,none,.fieldAddr 3 (.t 1)⟩,
  ⟨some 10,none,.load false false 1 (.t 9)⟩,
  ⟨some 11,none,.bin .geq (.t 10) (.c (.int .i64 0))⟩,
  ⟨some 12,none,.fieldAddr 4 (.t 1)⟩,
  ⟨some 13,none,.load false false 1 (.t 12)⟩,
  ⟨some 14,none,.bin .neq (.t 13) (.c (.int .i64 0))⟩,
  ⟨some 3,none,.mv false (.t 8)⟩,
  ⟨some 4,none,.mv false (.t 11)⟩,
  ⟨some 5,none,.mv false (.t 14)⟩] = true := by kernel_rfl
def act_Form_r2 : List LOper := [
  ⟨some 15,none,.fieldAddr 2 (.t 1)⟩,
  ⟨some 16,none,.load false false 1 (.t 15)⟩,
  ⟨some 17,none,.bin .lss (.t 16) (.c (.int .i64 (-1)))⟩,
  ⟨some 18,none,.mv false (.t 17)⟩,
  ⟨some 19,some (18,false),.fieldAddr 3 (.t 1)⟩,
  ⟨some 20,some (18,false),.load false false 1 (.t 19)⟩,
  ⟨some 21,some (18,false),.bin .lss (.t 20) (.c (.int .i64 (-1)))⟩,
  ⟨some 22,none,.pick (.t 18) (.c (.bool true)) (.t 21)⟩,
  ⟨some 23,none,.mv false (.t 22)⟩,
  ⟨some 24,some (23,false),.fieldAddr 1 (.t 1)⟩,
  ⟨some 25,some (23,false),.load false false 1 (.t 24)⟩,
  ⟨some 26,some (23,false),.bin .lss (.t 25) (.c (.int .i64 0))⟩,
  ⟨some 27,none,.pick (.t 23) (.c (.bool true)) (.t 26)⟩]
def act_Form_r3 : List LOper := [
  ⟨some 2,none,.mv false (.c (.bool false))⟩]
def act_Form_r4 : List LOper := [
  ⟨some 28,none,.fieldAddr 0 (.t 1)⟩,
  ⟨some 29,none,.load false false 1 (.t 28)⟩]
def act_Form_r5 : List LOper := [
  ⟨some 31,none,.bin .eql (.t 29) (.c (.int .i64 0))⟩,
  ⟨some 30,none,.mv false (.t 31)⟩]
def act_Form_r6 : List LOper := [
  ⟨some 32,none,.mv false (.t 3)⟩,
  ⟨some 33,none,.mv false (.t 4)⟩,
  ⟨some 34,none,.eqv true .bool (.t 32) (.t 33)⟩,
  ⟨some 35,none,.mv false (.t 34)⟩,
  ⟨some 36,some (35,true),.mv false (.t 5)⟩,
  ⟨some 37,some (35,true),.un .not (.t 36)⟩,
  ⟨some 38,none,.pick (.t 35) (.t 37) (.c (.bool false))⟩,
  ⟨some 2,none,.mv false (.t 38)⟩]
def act_Form_r7 : List LOper := [
  ⟨some 40,none,.bin .eql (.t 29) (.c (.int .i64 1))⟩,
  ⟨some 39,none,.mv false (.t 40)⟩]
def act_Form_r8 : List LOper := [
  ⟨some 41,none,.bin .eql (.t 29) (.c (.int .i64 3))⟩,
  ⟨some 39,none,.mv false (.t 41)⟩]
def act_Form_r9 : List LOper := [
  ⟨some 42,none,.mv false (.t 3)⟩,
  ⟨some 43,none,.mv false (.t 42)⟩,
  ⟨some 44,some (43,true),.mv false (.t 4)⟩,
  ⟨some 45,some (43,true),.un .not (.t 44)⟩,
  ⟨some 46,none,.pick (.t 43) (.t 45) (.c (.bool false))⟩,
  ⟨some 47,none,.mv false (.t 46)⟩,
  ⟨some 48,some (47,true),.mv false (.t 5)⟩,
  ⟨some 49,some (47,true),.un .not (.t 48)⟩,
  ⟨some 50,none,.pick (.t 47) (.t 49) (.c (.bool false))⟩,
  ⟨some 2,none,.mv false (.t 50)⟩]
def act_Form_r10 : List LOper := [
  ⟨some 52,none,.bin .eql (.t 29) (.c (.int .i64 2))⟩,
  ⟨some 51,none,.mv false (.t 52)⟩]
def act_Form_r11 : List LOper := [
  ⟨some 53,none,.mv false (.t 4)⟩,
  ⟨some 54,none,.mv false (.t 53)⟩,
  ⟨some 55,some (54,true),.mv false (.t 3)⟩,
  ⟨some 56,some (54,true),.un .not (.t 55)⟩,
  ⟨some 57,none,.pick (.t 54) (.t 56) (.c (.bool false))⟩,
  ⟨some 58,none,.mv false (.t 57)⟩,
  ⟨some 59,some (58,true),.mv false (.t 5)⟩,
  ⟨some 60,some (58,true),.un .not (.t 59)⟩,
  ⟨some 61,none,.pick (.t 58) (.t 60) (.c (.bool false))⟩,
  ⟨some 2,none,.mv false (.t 61)⟩]
def act_Form_r12 : List LOper := [
  ⟨some 63,none,.bin .eql (.t 29) (.c (.int .i64 4))⟩,
  ⟨some 62,none,.mv false (.t 63)⟩]
def act_Form_r13 : List LOper := [
  ⟨some 64,none,.mv false (.t 3)⟩,
  ⟨some 65,none,.un .not (.t 64)⟩,
  ⟨some 66,none,.mv false (.t 65)⟩,
  ⟨some 67,some (66,true),.mv false (.t 4)⟩,
  ⟨some 68,some (66,true),.un .not (.t 67)⟩,
  ⟨some 69,none,.pick (.t 66) (.t 68) (.c (.bool false))⟩,
  ⟨some 70,none,.mv false (.t 69)⟩,
  ⟨some 71,some (70,true),.fieldAddr 4 (.t 1)⟩,
  ⟨some 72,some (70,true),.load false false 1 (.t 71)⟩,
  ⟨some 73,some (70,true),.bin .geq (.t 72) (.c (.int .i64 1))⟩,
  ⟨some 74,none,.pick (.t 70) (.t 73) (.c (.bool false))⟩,
  ⟨some 75,none,.mv false (.t 74)⟩,
  ⟨some 76,some (75,true),.fieldAddr 4 (.t 1)⟩,
  ⟨some 77,some (75,true),.load false false 1 (.t 76)⟩,
  ⟨some 78,some (75,true),.bin .leq (.t 77) (.c (.int .i64 2000))⟩,
  ⟨some 79,none,.pick (.t 75) (.t 78) (.c (.bool false))⟩,
  ⟨some 2,none,.mv false (.t 79)⟩]
def act_Form_r14 : List LOper := [
  ⟨some 2,none,.mv false (.c (.bool false))⟩]
def act_Form_f : LFunc := ⟨80,1,[.tmp 2],(.seq (.ops act_Form_r0) (.seq (.dops [0,1,3,0,8,24,0,64,192,7,575,2047] act_Form_r1) (.seq (.seq (.ops act_Form_r2) (.cond (.t 27) (.seq (.ops act_Form_r3) .ret) .skip)) (.seq (.seq (.ops act_Form_r4) (.block 0 (.seq (.ops act_Form_r5) (.cond (.t 30) (.seq (.ops act_Form_r6) .ret) (.seq (.seq (.ops act_Form_r7) (.cond (.t 39) .skip (.ops act_Form_r8))) (.cond (.t 39) (.seq (.ops act_Form_r9) .ret) (.seq (.ops act_Form_r10) (.cond (.t 51) (.seq (.ops act_Form_r11) .ret) (.seq (.ops act_Form_r12) (.cond (.t 62) (.seq (.ops act_Form_r13) .ret) .skip)))))))))) (.seq (.ops act_Form_r14) .ret)))))⟩
def act_Form_v : VFunc := ⟨act_Form_f,true,false,false⟩
theorem act_Form_ok : preFunc Try.prog ⟨[],[],[]⟩ Try.f63 [] = some act_Form_f := by kernel_rfl

-- gantry/act.may
def act_may_r0 : List LOper := [
  ⟨some 2,none,.box (.t 0)⟩,
  ⟨some 3,none,.box (.t 1)⟩,
  ⟨some 4,none,.mv false (.c (.int .i64 0))⟩]
def act_may_r1 : List LOper := [
  ⟨some 8,none,.load false true 4 (.t 2)⟩,
  ⟨some 9,none,.fieldAddr 1 (.t 3)⟩,
  ⟨some 10,none,.load false false 1 (.t 9)⟩,
  ⟨some 11,none,.call true 11 [(.t 8),(.t 10)]⟩,
  ⟨some 12,none,.bin .geq (.t 11) (.c (.int .i64 0))⟩,
  ⟨some 13,none,.load false true 4 (.t 2)⟩,
  ⟨some 14,none,.load false true 5 (.t 3)⟩,
  ⟨some 15,none,.call true 68 [(.t 13),(.t 14)]⟩,
  ⟨some 5,none,.mv false (.t 12)⟩,
  ⟨some 6,none,.mv false (.t 15)⟩]
theorem act_may_r1_d : drawC [0,0,2,7,15,0,0,111,255,511] [
  ⟨some 8,none,.load false true 4 (.t 2)⟩,
  ⟨some 9,none,.fieldAddr 1 (.t 3)⟩,
  ⟨some 10,none,.load false false 1 (.t 9)⟩,
  ⟨some 11,none,.call true 11 [(.t 8),(.t 10)]⟩,
  ⟨some 12,none,.bin .geq (.t 11) (.c (.int .i64 0))⟩,
  ⟨some 13,none,.load false true 4 (.t 2)⟩,
  ⟨some 14,none,.load false true 5 (.t 3)⟩,
  ⟨some 15,none,.call true 68 [(.t 13),(.t 14)]⟩,
  ⟨some 5,none,.mv false (.t 12)⟩,
  ⟨some 6,none,.mv false (.t 15)⟩] = true := by kernel_rfl
def act_may_r2 : List LOper := [
  ⟨some 16,none,.mv false (.t 6)⟩,
  ⟨some 17,none,.bin .neq (.t 16) (.c (.int .i64 (-1)))⟩,
  ⟨some 18,none,.mv false (.t 17)⟩,
  ⟨some 19,some (18,true),.fieldAddr 3 (.t 2)⟩,
  ⟨some 20,some (18,true),.load false false 1 (.t 19)⟩,
  ⟨some 21,some (18,true),.fieldAddr 1 (.t 3)⟩,
  ⟨some 22,some (18,true),.load false false 1 (.t 21)⟩,
  ⟨some 23,some (18,true),.indexAddr 1 (.t 20) (.t 22)⟩,
  ⟨some 24,some (18,true),.load false false 1 (.t 23)⟩,
  ⟨some 25,some (18,true),.mv false (.t 6)⟩,
  ⟨some 26,some (18,true),.bin .eql (.t 24) (.t 25)⟩,
  ⟨some 27,none,.pick (.t 18) (.t 26) (.c (.bool false))⟩,
  ⟨some 7,none,.mv false (.t 27)⟩]
def act_may_r3 : List LOper := [
  ⟨some 28,none,.fieldAddr 0 (.t 3)⟩,
  ⟨some 29,none,.load false false 1 (.t 28)⟩]
def act_may_r4 : List LOper := [
  ⟨some 31,none,.bin .eql (.t 29) (.c (.int .i64 0))⟩,
  ⟨some 30,none,.mv false (.t 31)⟩]
def act_may_r5 : List LOper := [
  ⟨some 33,none,.fieldAddr 2 (.t 3)⟩,
  ⟨some 34,none,.load false false 1 (.t 33)⟩,
  ⟨some 35,none,.bin .geq (.t 34) (.c (.int .i64 0))⟩,
  ⟨some 36,none,.mv false (.t 35)⟩,
  ⟨some 37,some (36,true),.mv false (.t 5)⟩,
  ⟨some 38,none,.pick (.t 36) (.t 37) (.c (.bool false))⟩,
  ⟨some 32,none,.mv false (.t 38)⟩]
def act_may_r6 : List LOper := [
  ⟨some 4,none,.mv false (.c (.int .i64 6))⟩]
def act_may_r7 : List LOper := [
  ⟨some 40,none,.mv false (.t 6)⟩,
  ⟨some 41,none,.bin .eql (.t 40) (.c (.int .i64 (-1)))⟩,
  ⟨some 39,none,.mv false (.t 41)⟩]
def act_may_r8 : List LOper := [
  ⟨some 4,none,.mv false (.c (.int .i64 7))⟩]
def act_may_r9 : List LOper := [
  ⟨some 43,none,.mv false (.t 7)⟩,
  ⟨some 42,none,.mv false (.t 43)⟩]
def act_may_r10 : List LOper := [
  ⟨some 4,none,.mv false (.c (.int .i64 5))⟩]
def act_may_r11 : List LOper := [
  ⟨some 45,none,.fieldAddr 3 (.t 2)⟩,
  ⟨some 46,none,.load false false 1 (.t 45)⟩,
  ⟨some 47,none,.mv false (.t 6)⟩,
  ⟨some 48,none,.call false 66 [(.t 46),(.t 47)]⟩,
  ⟨some 44,none,.mv false (.t 48)⟩]
def act_may_r12 : List LOper := [
  ⟨some 4,none,.mv false (.c (.int .i64 10))⟩]
def act_may_r13 : List LOper := [
  ⟨some 50,none,.bin .eql (.t 29) (.c (.int .i64 1))⟩,
  ⟨some 49,none,.mv false (.t 50)⟩]
def act_may_r14 : List LOper := [
  ⟨some 51,none,.bin .eql (.t 29) (.c (.int .i64 3))⟩,
  ⟨some 49,none,.mv false (.t 51)⟩]
def act_may_r15 : List LOper := [
  ⟨some 53,none,.mv false (.t 5)⟩,
  ⟨some 52,none,.mv false (.t 53)⟩]
def act_may_r16 : List LOper := [
  ⟨some 4,none,.mv false (.c (.int .i64 6))⟩]
def act_may_r17 : List LOper := [
  ⟨some 55,none,.mv false (.t 7)⟩,
  ⟨some 56,none,.un .not (.t 55)⟩,
  ⟨some 54,none,.mv false (.t 56)⟩]
def act_may_r18 : List LOper := [
  ⟨some 4,none,.mv false (.c (.int .i64 7))⟩]
def act_may_r19 : List LOper := [
  ⟨some 58,none,.fieldAddr 0 (.t 3)⟩,
  ⟨some 59,none,.load false false 1 (.t 58)⟩,
  ⟨some 60,none,.bin .eql (.t 59) (.c (.int .i64 1))⟩,
  ⟨some 61,none,.mv false (.t 60)⟩,
  ⟨some 62,some (61,true),.fieldAddr 2 (.t 2)⟩,
  ⟨some 63,some (61,true),.load false false 1 (.t 62)⟩,
  ⟨some 64,some (61,true),.fieldAddr 2 (.t 3)⟩,
  ⟨some 65,some (61,true),.load false false 1 (.t 64)⟩,
  ⟨some 66,some (61,true),.indexAddr 1 (.t 63) (.t 65)⟩,
  ⟨some 67,some (61,true),.load false false 1 (.t 66)⟩,
  ⟨some 68,some (61,true),.un .not (.t 67)⟩,
  ⟨some 69,none,.pick (.t 61) (.t 68) (.c (.bool false))⟩,
  ⟨some 57,none,.mv false (.t 69)⟩]
def act_may_r20 : List LOper := [
  ⟨some 4,none,.mv false (.c (.int .i64 18))⟩]
def act_may_r21 : List LOper := [
  ⟨some 71,none,.fieldAddr 0 (.t 3)⟩,
  ⟨some 72,none,.load false false 1 (.t 71)⟩,
  ⟨some 73,none,.bin .eql (.t 72) (.c (.int .i64 3))⟩,
  ⟨some 74,none,.mv false (.t 73)⟩,
  ⟨some 75,some (74,true),.fieldAddr 2 (.t 2)⟩,
  ⟨some 76,some (74,true),.load false false 1 (.t 75)⟩,
  ⟨some 77,some (74,true),.fieldAddr 2 (.t 3)⟩,
  ⟨some 78,some (74,true),.load false false 1 (.t 77)⟩,
  ⟨some 79,some (74,true),.indexAddr 1 (.t 76) (.t 78)⟩,
  ⟨some 80,some (74,true),.load false false 1 (.t 79)⟩,
  ⟨some 81,none,.pick (.t 74) (.t 80) (.c (.bool false))⟩,
  ⟨some 70,none,.mv false (.t 81)⟩]
def act_may_r22 : List LOper := [
  ⟨some 4,none,.mv false (.c (.int .i64 5))⟩]
def act_may_r23 : List LOper := [
  ⟨some 83,none,.bin .eql (.t 29) (.c (.int .i64 2))⟩,
  ⟨some 82,none,.mv false (.t 83)⟩]
def act_may_r24 : List LOper := [
  ⟨some 85,none,.mv false (.t 5)⟩,
  ⟨some 86,none,.un .not (.t 85)⟩,
  ⟨some 87,none,.mv false (.t 86)⟩,
  ⟨some 88,some (87,false),.mv false (.t 7)⟩,
  ⟨some 89,some (87,false),.un .not (.t 88)⟩,
  ⟨some 90,none,.pick (.t 87) (.c (.bool true)) (.t 89)⟩,
  ⟨some 84,none,.mv false (.t 90)⟩]
def act_may_r25 : List LOper := [
  ⟨some 4,none,.mv false (.c (.int .i64 7))⟩]
def act_may_r26 : List LOper := [
  ⟨some 92,none,.load false true 4 (.t 2)⟩,
  ⟨some 93,none,.fieldAddr 3 (.t 3)⟩,
  ⟨some 94,none,.load false false 1 (.t 93)⟩,
  ⟨some 95,none,.call false 67 [(.t 92),(.t 94)]⟩,
  ⟨some 96,none,.bin .geq (.t 95) (.c (.int .i64 0))⟩,
  ⟨some 91,none,.mv false (.t 96)⟩]
def act_may_r27 : List LOper := [
  ⟨some 4,none,.mv false (.c (.int .i64 5))⟩]
def act_may_r28 : List LOper := [
  ⟨some 4,none,.mv false (.c (.int .i64 0))⟩]
def act_may_f : LFunc := ⟨97,2,[.tmp 4],(.seq (.ops act_may_r0) (.seq (.dops [0,0,2,7,15,0,0,111,255,511] act_may_r1) (.seq (.ops act_may_r2) (.seq (.seq (.ops act_may_r3) (.block 0 (.seq (.ops act_may_r4) (.cond (.t 30) (.block 1 (.seq (.ops act_may_r5) (.cond (.t 32) (.seq (.ops act_may_r6) .ret) (.seq (.ops act_may_r7) (.cond (.t 39) (.seq (.ops act_may_r8) .ret) (.seq (.ops act_may_r9) (.cond (.t 42) (.seq (.ops act_may_r10) .ret) (.seq (.ops act_may_r11) (.cond (.t 44) (.seq (.ops act_may_r12) .ret) .skip))))))))) (.seq (.seq (.ops act_may_r13) (.cond (.t 49) .skip (.ops act_may_r14))) (.cond (.t 49) (.block 2 (.seq (.ops act_may_r15) (.cond (.t 52) (.seq (.ops act_may_r16) .ret) (.seq (.ops act_may_r17) (.cond (.t 54) (.seq (.ops act_may_r18) .ret) (.seq (.ops act_may_r19) (.cond (.t 57) (.seq (.ops act_may_r20) .ret) (.seq (.ops act_may_r21) (.cond (.t 70) (.seq (.ops act_may_r22) .ret) .skip))))))))) (.seq (.ops act_may_r23) (.cond (.t 82) (.block 3 (.seq (.ops act_may_r24) (.cond (.t 84) (.seq (.ops act_may_r25) .ret) (.seq (.ops act_may_r26) (.cond (.t 91) (.seq (.ops act_may_r27) .ret) .skip))))) .skip)))))))) (.seq (.ops act_may_r28) .ret)))))⟩
def act_may_v : VFunc := ⟨act_may_f,true,false,false⟩
theorem act_may_ok : preFunc Try.prog ⟨[],[],[11,15]⟩ Try.f64 [] = some act_may_f := by kernel_rfl

-- slices.Contains[[]int,int]
def slices_Contains_intint_r0 : List LOper := [
  ⟨some 4,none,.mv false (.c (.bool false))⟩]
def slices_Contains_intint_r1 : List LOper := [
  ⟨some 5,none,.mv false (.t 0)⟩,
  ⟨some 6,none,.mv false (.t 1)⟩,
  ⟨some 7,none,.call false 43 [(.t 5),(.t 6)]⟩,
  ⟨some 8,none,.bin .geq (.t 7) (.c (.int .i64 0))⟩,
  ⟨some 4,none,.mv false (.t 8)⟩]
def slices_Contains_intint_f : LFunc := ⟨9,2,[.tmp 4],(.seq (.ops slices_Contains_intint_r0) (.seq (.ops slices_Contains_intint_r1) .ret))⟩
def slices_Contains_intint_v : VFunc := ⟨slices_Contains_intint_f,true,false,false⟩
theorem slices_Contains_intint_ok : preFunc Try.prog ⟨[],[],[]⟩ Try.f66 [] = some slices_Contains_intint_f := by kernel_rfl

-- gantry/act.In
def act_In_r0 : List LOper := [
  ⟨some 2,none,.box (.t 0)⟩,
  ⟨some 4,none,.mv false (.c (.int .i64 0))⟩]
def act_In_r1 : List LOper := [
  ⟨some 5,none,.mv false (.t 1)⟩,
  ⟨some 6,none,.bin .lss (.t 5) (.c (.int .i64 0))⟩]
def act_In_r2 : List LOper := [
  ⟨some 4,none,.mv false (.c (.int .i64 (-1)))⟩]
def act_In_r3 : List LOper := [
  ⟨some 7,none,.fieldAddr 1 (.t 2)⟩,
  ⟨some 8,none,.load false false 1 (.t 7)⟩,
  ⟨some 9,none,.mv false (.t 1)⟩,
  ⟨some 10,none,.call false 43 [(.t 8),(.t 9)]⟩,
  ⟨some 4,none,.mv false (.t 10)⟩]
def act_In_f : LFunc := ⟨11,2,[.tmp 4],(.seq (.ops act_In_r0) (.seq (.seq (.ops act_In_r1) (.cond (.t 6) (.seq (.ops act_In_r2) .ret) .skip)) (.seq (.ops act_In_r3) .ret)))⟩
def act_In_v : VFunc := ⟨act_In_f,true,false,false⟩
theorem act_In_ok : preFunc Try.prog ⟨[],[],[]⟩ Try.f67 [] = some act_In_f := by kernel_rfl

-- gantry/act.target
def act_target_r0 : List LOper := [
  ⟨some 2,none,.box (.t 0)⟩,
  ⟨some 3,none,.box (.t 1)⟩,
  ⟨some 4,none,.mv false (.c (.int .i64 0))⟩]
def act_target_r1 : List LOper := [
  ⟨some 5,none,.fieldAddr 2 (.t 3)⟩,
  ⟨some 6,none,.load false false 1 (.t 5)⟩,
  ⟨some 7,none,.bin .geq (.t 6) (.c (.int .i64 0))⟩]
def act_target_r2 : List LOper := [
  ⟨some 8,none,.load false true 4 (.t 2)⟩,
  ⟨some 9,none,.fieldAddr 2 (.t 3)⟩,
  ⟨some 10,none,.load false false 1 (.t 9)⟩,
  ⟨some 11,none,.call false 79 [(.t 8),(.t 10)]⟩,
  ⟨some 4,none,.mv false (.t 11)⟩]
def act_target_r3 : List LOper := [
  ⟨some 12,none,.fieldAddr 3 (.t 3)⟩,
  ⟨some 13,none,.load false false 1 (.t 12)⟩,
  ⟨some 4,none,.mv false (.t 13)⟩]
def act_target_f : LFunc := ⟨14,2,[.tmp 4],(.seq (.ops act_target_r0) (.seq (.seq (.ops act_target_r1) (.cond (.t 7) (.seq (.ops act_target_r2) .ret) .skip)) (.seq (.ops act_target_r3) .ret)))⟩
def act_target_v : VFunc := ⟨act_target_f,true,false,false⟩
theorem act_target_ok : preFunc Try.prog ⟨[],[],[]⟩ Try.f68 [] = some act_target_f := by kernel_rfl

-- gantry/gantmake.digits
def gantmake_digits_r0 : List LOper := [
  ⟨some 2,none,.mv false (.c (.str []))⟩]
def gantmake_digits_r1 : List LOper := [
  ⟨some 3,none,.mv true (.c (.nilslice))⟩]
def gantmake_digits_r2 : List LOper := [
  ⟨some 4,none,.mv false (.t 0)⟩,
  ⟨some 5,none,.bin .gtr (.t 4) (.c (.int .i64 0))⟩]
def gantmake_digits_r3 : List LOper := [
  ⟨some 8,none,.mv true (.t 3)⟩,
  ⟨some 9,none,.mv false (.t 0)⟩,
  ⟨some 10,none,.bin .rem (.t 9) (.c (.int .i64 256))⟩,
  ⟨some 11,none,.conv .u8 (.t 10)⟩,
  ⟨some 12,none,.bslice false 1 1 [.int .u8 0] [(0,1,(.t 11))]⟩,
  ⟨some 13,none,.append true 1 1 (.t 8) (.t 12)⟩,
  ⟨some 3,none,.mv true (.t 13)⟩]
def gantmake_digits_r4 : List LOper := [
  ⟨some 6,none,.mv false (.t 0)⟩,
  ⟨some 7,none,.bin .quo (.t 6) (.c (.int .i64 256))⟩,
  ⟨some 0,none,.mv false (.t 7)⟩]
def gantmake_digits_b0 : LCode := (.seq (.seq (.ops gantmake_digits_r2) (.cond (.t 5) .skip (.exit 0))) (.seq (.block 1 (.ops gantmake_digits_r3)) (.ops gantmake_digits_r4)))
def gantmake_digits_r5 : List LOper := [
  ⟨some 14,none,.mv false (.t 3)⟩,
  ⟨some 15,none,.call false 80 [(.t 14)]⟩]
def gantmake_digits_r6 : List LOper := [
  ⟨some 16,none,.mv false (.t 3)⟩,
  ⟨some 17,none,.b2s (.t 16)⟩,
  ⟨some 2,none,.mv false (.t 17)⟩]
def gantmake_digits_f : LFunc := ⟨18,1,[.tmp 2],(.seq (.ops gantmake_digits_r0) (.seq (.ops gantmake_digits_r1) (.seq (.block 0 (.loop [0,3] gantmake_digits_b0)) (.seq (.ops gantmake_digits_r5) (.seq (.ops gantmake_digits_r6) .ret)))))⟩
def gantmake_digits_v : VFunc := ⟨gantmake_digits_f,true,false,false⟩
theorem gantmake_digits_ok : preFunc Try.prog ⟨[3,8,13],[],[]⟩ Try.f70 [[0,3]] = some gantmake_digits_f := by kernel_rfl

-- gantry/act.Where
def act_Where_r0 : List LOper := [
  ⟨some 2,none,.box (.t 0)⟩,
  ⟨some 4,none,.mv false (.c (.int .i64 0))⟩]
def act_Where_r1 : List LOper := [
  ⟨some 6,none,.mv false (.t 1)⟩,
  ⟨some 7,none,.bin .lss (.t 6) (.c (.int .i64 0))⟩,
  ⟨some 8,none,.mv false (.t 7)⟩,
  ⟨some 9,some (8,false),.mv false (.t 1)⟩,
  ⟨some 10,some (8,false),.fieldAddr 1 (.t 2)⟩,
  ⟨some 11,some (8,false),.load false false 1 (.t 10)⟩,
  ⟨some 12,some (8,false),.lenL (.t 11)⟩,
  ⟨some 13,some (8,false),.bin .geq (.t 9) (.t 12)⟩,
  ⟨some 14,none,.pick (.t 8) (.c (.bool true)) (.t 13)⟩,
  ⟨some 15,none,.mv false (.t 14)⟩,
  ⟨some 16,some (15,false),.fieldAddr 1 (.t 2)⟩,
  ⟨some 17,some (15,false),.load false false 1 (.t 16)⟩,
  ⟨some 18,some (15,false),.mv false (.t 1)⟩,
  ⟨some 19,some (15,false),.indexAddr 1 (.t 17) (.t 18)⟩,
  ⟨some 20,some (15,false),.load false false 1 (.t 19)⟩,
  ⟨some 21,some (15,false),.bin .lss (.t 20) (.c (.int .i64 (-1)))⟩,
  ⟨some 22,none,.pick (.t 15) (.c (.bool true)) (.t 21)⟩,
  ⟨some 5,none,.mv false (.t 22)⟩]
def act_Where_r2 : List LOper := [
  ⟨some 4,none,.mv false (.c (.int .i64 (-1)))⟩]
def act_Where_r3 : List LOper := [
  ⟨some 24,none,.fieldAddr 1 (.t 2)⟩,
  ⟨some 25,none,.load false false 1 (.t 24)⟩,
  ⟨some 26,none,.mv false (.t 1)⟩,
  ⟨some 27,none,.indexAddr 1 (.t 25) (.t 26)⟩,
  ⟨some 28,none,.load false false 1 (.t 27)⟩,
  ⟨some 29,none,.bin .eql (.t 28) (.c (.int .i64 (-1)))⟩,
  ⟨some 23,none,.mv false (.t 29)⟩]
def act_Where_r4 : List LOper := [
  ⟨some 30,none,.mv false (.t 1)⟩,
  ⟨some 31,none,.bin .add (.c (.int .i64 8)) (.t 30)⟩,
  ⟨some 4,none,.mv false (.t 31)⟩]
def act_Where_r5 : List LOper := [
  ⟨some 32,none,.fieldAddr 1 (.t 2)⟩,
  ⟨some 33,none,.load false false 1 (.t 32)⟩,
  ⟨some 34,none,.mv false (.t 1)⟩,
  ⟨some 35,none,.indexAddr 1 (.t 33) (.t 34)⟩,
  ⟨some 36,none,.load false false 1 (.t 35)⟩,
  ⟨some 4,none,.mv false (.t 36)⟩]
def act_Where_f : LFunc := ⟨37,2,[.tmp 4],(.seq (.ops act_Where_r0) (.seq (.block 0 (.seq (.ops act_Where_r1) (.cond (.t 5) (.seq (.ops act_Where_r2) .ret) (.seq (.ops act_Where_r3) (.cond (.t 23) (.seq (.ops act_Where_r4) .ret) .skip))))) (.seq (.ops act_Where_r5) .ret)))⟩
def act_Where_v : VFunc := ⟨act_Where_f,true,false,false⟩
theorem act_Where_ok : preFunc Try.prog ⟨[],[],[]⟩ Try.f79 [] = some act_Where_f := by kernel_rfl

-- slices.Reverse[[]byte,byte]
def slices_Reverse_bytebyte_r0 : List LOper := [
  ⟨some 4,none,.mv false (.t 0)⟩,
  ⟨some 5,none,.lenL (.t 4)⟩,
  ⟨some 6,none,.bin .sub (.t 5) (.c (.int .i64 1))⟩,
  ⟨some 2,none,.mv false (.c (.int .i64 0))⟩,
  ⟨some 3,none,.mv false (.t 6)⟩]
def slices_Reverse_bytebyte_r1 : List LOper := [
  ⟨some 7,none,.mv false (.t 2)⟩,
  ⟨some 8,none,.mv false (.t 3)⟩,
  ⟨some 9,none,.bin .lss (.t 7) (.t 8)⟩]
def slices_Reverse_bytebyte_r2 : List LOper := [
  ⟨some 14,none,.mv false (.t 0)⟩,
  ⟨some 15,none,.mv false (.t 2)⟩,
  ⟨some 16,none,.mv false (.t 0)⟩,
  ⟨some 17,none,.mv false (.t 3)⟩,
  ⟨some 18,none,.mv false (.t 0)⟩,
  ⟨some 19,none,.mv false (.t 3)⟩,
  ⟨some 20,none,.indexAddr 1 (.t 18) (.t 19)⟩,
  ⟨some 21,none,.load false false 1 (.t 20)⟩,
  ⟨some 22,none,.mv false (.t 0)⟩,
  ⟨some 23,none,.mv false (.t 2)⟩,
  ⟨some 24,none,.indexAddr 1 (.t 22) (.t 23)⟩,
  ⟨some 25,none,.load false false 1 (.t 24)⟩,
  ⟨some 26,none,.indexAddr 1 (.t 14) (.t 15)⟩,
  ⟨none,none,.store 1 (.t 26) (.t 21)⟩,
  ⟨some 27,none,.indexAddr 1 (.t 16) (.t 17)⟩,
  ⟨none,none,.store 1 (.t 27) (.t 25)⟩]
theorem slices_Reverse_bytebyte_r2_d : drawC [0,0,0,0,0,0,48,112,0,0,768,1792,4083,8179,16383,32767] [
  ⟨some 14,none,.mv false (.t 0)⟩,
  ⟨some 15,none,.mv false (.t 2)⟩,
  ⟨some 16,none,.mv false (.t 0)⟩,
  ⟨some 17,none,.mv false (.t 3)⟩,
  ⟨some 18,none,.mv false (.t 0)⟩,
  ⟨some 19,none,.mv false (.t 3)⟩,
  ⟨some 20,none,.indexAddr 1 (.t 18) (.t 19)⟩,
  ⟨some 21,none,.load false false 1 (.t 20)⟩,
  ⟨some 22,none,.mv false (.t 0)⟩,
  ⟨some 23,none,.mv false (.t 2)⟩,
  ⟨some 24,none,.indexAddr 1 (.t 22) (.t 23)⟩,
  ⟨some 25,none,.load false false 1 (.t 24)⟩,
  ⟨some 26,none,.indexAddr 1 (.t 14) (.t 15)⟩,
  ⟨none,none,.store 1 (.t 26) (.t 21)⟩,
  ⟨some 27,none,.indexAddr 1 (.t 16) (.t 17)⟩,
  ⟨none,none,.store 1 (.t 27) (.t 25)⟩] = true := by kernel_rfl
def slices_Reverse_bytebyte_r3 : List LOper := [
  ⟨some 10,none,.mv false (.t 2)⟩,
  ⟨some 11,none,.bin .add (.t 10) (.c (.int .i64 1))⟩,
  ⟨some 12,none,.mv false (.t 3)⟩,
  ⟨some 13,none,.bin .sub (.t 12) (.c (.int .i64 1))⟩,
  ⟨some 2,none,.mv false (.t 11)⟩,
  ⟨some 3,none,.mv false (.t 13)⟩]
def slices_Reverse_bytebyte_b0 : LCode := (.seq (.seq (.ops slices_Reverse_bytebyte_r1) (.cond (.t 9) .skip (.exit 0))) (.seq (.block 1 (.dops [0,0,0,0,0,0,48,112,0,0,768,1792,4083,8179,16383,32767] slices_Reverse_bytebyte_r2)) (.ops slices_Reverse_bytebyte_r3)))
def slices_Reverse_bytebyte_f : LFunc := ⟨28,1,[],(.seq (.ops slices_Reverse_bytebyte_r0) (.block 0 (.loop [0,2,3] slices_Reverse_bytebyte_b0)))⟩
def slices_Reverse_bytebyte_v : VFunc := ⟨slices_Reverse_bytebyte_f,true,false,false⟩
theorem slices_Reverse_bytebyte_ok : preFunc Try.prog ⟨[],[],[]⟩ Try.f80 [[0,2,3]] = some slices_Reverse_bytebyte_f := by kernel_rfl

abbrev n_gantkeep4_World : Nat := 9
abbrev n_gantkeep4_Small : Nat := 10
abbrev n_act_Holds : Nat := 11
abbrev n_act_Run : Nat := 13
abbrev n_act_Copy : Nat := 14
abbrev n_act_Same : Nat := 15
abbrev n_gantkeep4_acted : Nat := 16
abbrev n_gantmake_Below : Nat := 30
abbrev n_act_Can : Nat := 33
abbrev n_act_Check : Nat := 36
abbrev n_act_Do : Nat := 38
abbrev n_gantmake_Stream_Next : Nat := 41
abbrev n_gantmake_Of : Nat := 42
abbrev n_slices_Index_intint : Nat := 43
abbrev n_act_Held : Nat := 44
abbrev n_slices_Clone_intint : Nat := 47
abbrev n_slices_Clone_boolbool : Nat := 48
abbrev n_slices_Equal_intint : Nat := 49
abbrev n_slices_Equal_boolbool : Nat := 50
abbrev n_act_Start : Nat := 51
abbrev n_act_Form : Nat := 63
abbrev n_act_may : Nat := 64
abbrev n_slices_Contains_intint : Nat := 66
abbrev n_act_In : Nat := 67
abbrev n_act_target : Nat := 68
abbrev n_gantmake_digits : Nat := 70
abbrev n_act_Where : Nat := 79
abbrev n_slices_Reverse_bytebyte : Nat := 80
def vp : VProg
  | 9 => some gantkeep4_World_v
  | 10 => some gantkeep4_Small_v
  | 11 => some act_Holds_v
  | 13 => some act_Run_v
  | 14 => some act_Copy_v
  | 15 => some act_Same_v
  | 16 => some gantkeep4_acted_v
  | 30 => some gantmake_Below_v
  | 33 => some act_Can_v
  | 36 => some act_Check_v
  | 38 => some act_Do_v
  | 41 => some gantmake_Stream_Next_v
  | 42 => some gantmake_Of_v
  | 43 => some slices_Index_intint_v
  | 44 => some act_Held_v
  | 47 => some slices_Clone_intint_v
  | 48 => some slices_Clone_boolbool_v
  | 49 => some slices_Equal_intint_v
  | 50 => some slices_Equal_boolbool_v
  | 51 => some act_Start_v
  | 63 => some act_Form_v
  | 64 => some act_may_v
  | 66 => some slices_Contains_intint_v
  | 67 => some act_In_v
  | 68 => some act_target_v
  | 70 => some gantmake_digits_v
  | 79 => some act_Where_v
  | 80 => some slices_Reverse_bytebyte_v
  | _ => none
def lp : LProg := fun f => if f = 47 then some slices_Clone_intint_f else if f = 48 then some slices_Clone_boolbool_f else (vp f).map (·.fn)
theorem lp_ok : PSound false Try.prog lp := by
  intro f lf h
  unfold lp at h
  split at h
  · rename_i e; subst e; cases h; exact .inl ⟨_,_,_,Try.func47,slices_Clone_intint_ok⟩
  split at h
  · rename_i e; subst e; cases h; exact .inl ⟨_,_,_,Try.func48,slices_Clone_boolbool_ok⟩
  unfold vp at h
  split at h
  · cases h; exact .inl ⟨_,_,_,Try.func9,gantkeep4_World_ok⟩
  · cases h; exact .inl ⟨_,_,_,Try.func10,gantkeep4_Small_ok⟩
  · cases h; exact .inl ⟨_,_,_,Try.func11,act_Holds_ok⟩
  · cases h; exact .inl ⟨_,_,_,Try.func13,act_Run_ok⟩
  · cases h; exact .inl ⟨_,_,_,Try.func14,act_Copy_ok⟩
  · cases h; exact .inl ⟨_,_,_,Try.func15,act_Same_ok⟩
  · cases h; exact .inl ⟨_,_,_,Try.func16,gantkeep4_acted_ok⟩
  · cases h; exact .inl ⟨_,_,_,Try.func30,gantmake_Below_ok⟩
  · cases h; exact .inl ⟨_,_,_,Try.func33,act_Can_ok⟩
  · cases h; exact .inl ⟨_,_,_,Try.func36,act_Check_ok⟩
  · cases h; exact .inl ⟨_,_,_,Try.func38,act_Do_ok⟩
  · cases h; exact .inl ⟨_,_,_,Try.func41,gantmake_Stream_Next_ok⟩
  · cases h; exact .inl ⟨_,_,_,Try.func42,gantmake_Of_ok⟩
  · cases h; exact .inl ⟨_,_,_,Try.func43,slices_Index_intint_ok⟩
  · cases h; exact .inl ⟨_,_,_,Try.func44,act_Held_ok⟩
  · exact absurd rfl (by assumption)
  · exact absurd rfl (by assumption)
  · cases h; exact .inl ⟨_,_,_,Try.func49,slices_Equal_intint_ok⟩
  · cases h; exact .inl ⟨_,_,_,Try.func50,slices_Equal_boolbool_ok⟩
  · cases h; exact .inl ⟨_,_,_,Try.func51,act_Start_ok⟩
  · cases h; exact .inl ⟨_,_,_,Try.func63,act_Form_ok⟩
  · cases h; exact .inl ⟨_,_,_,Try.func64,act_may_ok⟩
  · cases h; exact .inl ⟨_,_,_,Try.func66,slices_Contains_intint_ok⟩
  · cases h; exact .inl ⟨_,_,_,Try.func67,act_In_ok⟩
  · cases h; exact .inl ⟨_,_,_,Try.func68,act_target_ok⟩
  · cases h; exact .inl ⟨_,_,_,Try.func70,gantmake_digits_ok⟩
  · cases h; exact .inl ⟨_,_,_,Try.func79,act_Where_ok⟩
  · cases h; exact .inl ⟨_,_,_,Try.func80,slices_Reverse_bytebyte_ok⟩
  · cases h
theorem vp_link (f : FuncId) : Link (lp f) (vp f) := by
  unfold lp
  split
  · rename_i e; subst e; exact .cloneM false false 1 8
  split
  · rename_i e; subst e; exact .cloneM false false 1 1
  exact .of_eq rfl
theorem law {f : FuncId} {args : List VV} {h1 : VHeap} (hE : callVL vp 0 f args [] = some (.bool true,h1)) {w : World} {ρ : List Lg.Place} {lh : Heap} (R : Rep (m := false) ⟨w⟩ ρ lh w) {vs : Array Value} {largs : List LV} (hv : VRs ρ vs.toList largs) (hr : RVs (fun _ => none) [] lh args largs) :
    Calls Try.prog f vs w fun e w' => e = .returned (.bool true) ∧ Below w.heap.size w w' := law_true lp_ok vp_link hE R hv hr
end Vg.G3
