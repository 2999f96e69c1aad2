import Derived.Test.YtiidghpdgkfncaaVE2
import Derived.Test.YtiidghpdgkfncaaVVgLib
import Derived.Test.YtiidghpdgkfncaaProg
import Derived.KernelRfl
namespace Vg.G2
open Go Lg Go.RowKit
open Go.Proofs
-- gantry/gantkeep4.WordPlaces
def gantkeep4_WordPlaces_r0 : List LOper := [
  ⟨some 2,none,.mv false (.c (.bool false))⟩]
def gantkeep4_WordPlaces_r1 : List LOper := [
  ⟨some 11,none,.mv false (.t 0)⟩,
  ⟨some 12,none,.call false 6 [(.t 11)]⟩,
  ⟨some 10,none,.mv false (.t 12)⟩,
  ⟨some 13,none,.extract 0 (.t 10)⟩,
  ⟨some 14,none,.extract 1 (.t 10)⟩,
  ⟨some 3,none,.mv false (.t 13)⟩,
  ⟨some 4,none,.mv false (.t 14)⟩]
def gantkeep4_WordPlaces_r2 : List LOper := [
  ⟨some 15,none,.call false 7 []⟩,
  ⟨some 16,none,.un .not (.t 15)⟩,
  ⟨some 17,none,.mv false (.t 16)⟩,
  ⟨some 18,some (17,false),.mv false (.t 4)⟩,
  ⟨some 19,some (17,false),.bin .neq (.t 18) (.c (.int .i64 0))⟩,
  ⟨some 20,none,.pick (.t 17) (.c (.bool true)) (.t 19)⟩]
def gantkeep4_WordPlaces_r3 : List LOper := [
  ⟨some 21,none,.call false 7 []⟩,
  ⟨some 2,none,.mv false (.t 21)⟩]
def gantkeep4_WordPlaces_r4 : List LOper := [
  ⟨some 5,none,.mv false (.c (.int .i64 0))⟩,
  ⟨some 6,none,.mv false (.c (.int .i64 1))⟩]
def gantkeep4_WordPlaces_r5 : List LOper := [
  ⟨some 22,none,.mv false (.t 3)⟩,
  ⟨some 23,none,.lenL (.t 22)⟩,
  ⟨some 24,none,.mv false (.c (.int .i64 0))⟩]
def gantkeep4_WordPlaces_r6 : List LOper := [
  ⟨some 25,none,.bin .lss (.t 24) (.t 23)⟩]
def gantkeep4_WordPlaces_r7 : List LOper := [
  ⟨some 26,none,.indexAddr 3 (.t 22) (.t 24)⟩,
  ⟨some 27,none,.load false true 3 (.t 26)⟩,
  ⟨some 8,none,.alloc [.int .i64 0,.int .i64 0,.str []]⟩,
  ⟨none,none,.store 3 (.t 8) (.t 27)⟩]
def gantkeep4_WordPlaces_r8 : List LOper := [
  ⟨some 28,none,.mv false (.t 0)⟩,
  ⟨some 29,none,.fieldAddr 1 (.t 8)⟩,
  ⟨some 30,none,.load false false 1 (.t 29)⟩,
  ⟨some 31,none,.call false 8 [(.t 28),(.t 30)]⟩,
  ⟨some 9,none,.mv false (.t 31)⟩]
def gantkeep4_WordPlaces_r9 : List LOper := [
  ⟨some 32,none,.fieldAddr 1 (.t 8)⟩,
  ⟨some 33,none,.load false false 1 (.t 32)⟩,
  ⟨some 34,none,.mv false (.t 5)⟩,
  ⟨some 35,none,.bin .lss (.t 33) (.t 34)⟩,
  ⟨some 36,none,.mv false (.t 35)⟩,
  ⟨some 37,some (36,false),.fieldAddr 1 (.t 8)⟩,
  ⟨some 38,some (36,false),.load false false 1 (.t 37)⟩,
  ⟨some 39,some (36,false),.mv false (.t 0)⟩,
  ⟨some 40,some (36,false),.lenS (.t 39)⟩,
  ⟨some 41,some (36,false),.fieldAddr 2 (.t 8)⟩,
  ⟨some 42,some (36,false),.load false false 1 (.t 41)⟩,
  ⟨some 43,some (36,false),.lenS (.t 42)⟩,
  ⟨some 44,some (36,false),.bin .sub (.t 40) (.t 43)⟩,
  ⟨some 45,some (36,false),.bin .gtr (.t 38) (.t 44)⟩,
  ⟨some 46,none,.pick (.t 36) (.c (.bool true)) (.t 45)⟩,
  ⟨some 47,none,.mv false (.t 46)⟩,
  ⟨some 48,some (47,false),.mv false (.t 0)⟩,
  ⟨some 49,some (47,false),.fieldAddr 1 (.t 8)⟩,
  ⟨some 50,some (47,false),.load false false 1 (.t 49)⟩,
  ⟨some 51,some (47,false),.fieldAddr 1 (.t 8)⟩,
  ⟨some 52,some (47,false),.load false false 1 (.t 51)⟩,
  ⟨some 53,some (47,false),.fieldAddr 2 (.t 8)⟩,
  ⟨some 54,some (47,false),.load false false 1 (.t 53)⟩,
  ⟨some 55,some (47,false),.lenS (.t 54)⟩,
  ⟨some 56,some (47,false),.bin .add (.t 52) (.t 55)⟩,
  ⟨some 57,some (47,false),.slc 0 (.t 48) (some (.t 50)) (some (.t 56)) none⟩,
  ⟨some 58,some (47,false),.fieldAddr 2 (.t 8)⟩,
  ⟨some 59,some (47,false),.load false false 1 (.t 58)⟩,
  ⟨some 60,some (47,false),.bin .neq (.t 57) (.t 59)⟩,
  ⟨some 61,none,.pick (.t 47) (.c (.bool true)) (.t 60)⟩,
  ⟨some 62,none,.mv false (.t 61)⟩,
  ⟨some 63,some (62,false),.mv false (.t 9)⟩,
  ⟨some 64,some (62,false),.mv false (.t 6)⟩,
  ⟨some 65,some (62,false),.bin .lss (.t 63) (.t 64)⟩,
  ⟨some 66,none,.pick (.t 62) (.c (.bool true)) (.t 65)⟩]
theorem gantkeep4_WordPlaces_r9_d : drawC [0,1,0,7,15,31,63,31,159,31,543,1567,3999,8191,16383,32767,65535,65535,196607,65535,589823,65535,2162687,6356991,16318463,33554431,65535,67174399,268435455,536870911,1073741823,2147483647,2147483647,8589934591,17179869183] [
  ⟨some 32,none,.fieldAddr 1 (.t 8)⟩,
  ⟨some 33,none,.load false false 1 (.t 32)⟩,
  ⟨some 34,none,.mv false (.t 5)⟩,
  ⟨some 35,none,.bin .lss (.t 33) (.t 34)⟩,
  ⟨some 36,none,.mv false (.t 35)⟩,
  ⟨some 37,some (36,false),.fieldAddr 1 (.t 8)⟩,
  ⟨some 38,some (36,false),.load false false 1 (.t 37)⟩,
  ⟨some 39,some (36,false),.mv false (.t 0)⟩,
  ⟨some 40,some (36,false),.lenS (.t 39)⟩,
  ⟨some 41,some (36,false),.fieldAddr 2 (.t 8)⟩,
  ⟨some 42,some (36,false),.load false false 1 (.t 41)⟩,
  ⟨some 43,some (36,false),.lenS (.t 42)⟩,
  ⟨some 44,some (36,false),.bin .sub (.t 40) (.t 43)⟩,
  ⟨some 45,some (36,false),.bin .gtr (.t 38) (.t 44)⟩,
  ⟨some 46,none,.pick (.t 36) (.c (.bool true)) (.t 45)⟩,
  ⟨some 47,none,.mv false (.t 46)⟩,
  ⟨some 48,some (47,false),.mv false (.t 0)⟩,
  ⟨some 49,some (47,false),.fieldAddr 1 (.t 8)⟩,
  ⟨some 50,some (47,false),.load false false 1 (.t 49)⟩,
  ⟨some 51,some (47,false),.fieldAddr 1 (.t 8)⟩,
  ⟨some 52,some (47,false),.load false false 1 (.t 51)⟩,
  ⟨some 53,some (47,false),.fieldAddr 2 (.t 8)⟩,
  ⟨some 54,some (47,false),.load false false 1 (.t 53)⟩,
  ⟨some 55,some (47,false),.lenS (.t 54)⟩,
  ⟨some 56,some (47,false),.bin .add (.t 52) (.t 55)⟩,
  ⟨some 57,some (47,false),.slc 0 (.t 48) (some (.t 50)) (some (.t 56)) none⟩,
  ⟨some 58,some (47,false),.fieldAddr 2 (.t 8)⟩,
  ⟨some 59,some (47,false),.load false false 1 (.t 58)⟩,
  ⟨some 60,some (47,false),.bin .neq (.t 57) (.t 59)⟩,
  ⟨some 61,none,.pick (.t 47) (.c (.bool true)) (.t 60)⟩,
  ⟨some 62,none,.mv false (.t 61)⟩,
  ⟨some 63,some (62,false),.mv false (.t 9)⟩,
  ⟨some 64,some (62,false),.mv false (.t 6)⟩,
  ⟨some 65,some (62,false),.bin .lss (.t 63) (.t 64)⟩,
  ⟨some 66,none,.pick (.t 62) (.c (.bool true)) (.t 65)⟩] = true := by kernel_rfl
def gantkeep4_WordPlaces_r10 : List LOper := [
  ⟨some 2,none,.mv false (.c (.bool false))⟩]
def gantkeep4_WordPlaces_r11 : List LOper := [
  ⟨some 67,none,.fieldAddr 1 (.t 8)⟩,
  ⟨some 68,none,.load false false 1 (.t 67)⟩,
  ⟨some 69,none,.fieldAddr 2 (.t 8)⟩,
  ⟨some 70,none,.load false false 1 (.t 69)⟩,
  ⟨some 71,none,.lenS (.t 70)⟩,
  ⟨some 72,none,.bin .add (.t 68) (.t 71)⟩,
  ⟨some 73,none,.mv false (.t 9)⟩,
  ⟨some 5,none,.mv false (.t 72)⟩,
  ⟨some 6,none,.mv false (.t 73)⟩]
def gantkeep4_WordPlaces_r12 : List LOper := [
  ⟨some 74,none,.bin .add (.t 24) (.c (.int .i64 1))⟩,
  ⟨some 24,none,.mv false (.t 74)⟩]
def gantkeep4_WordPlaces_b0 : LCode := (.seq (.ops gantkeep4_WordPlaces_r6) (.seq (.cond (.t 25) .skip (.exit 0)) (.seq (.block 1 (.seq (.ops gantkeep4_WordPlaces_r7) (.seq (.ops gantkeep4_WordPlaces_r8) (.seq (.seq (.dops [0,1,0,7,15,31,63,31,159,31,543,1567,3999,8191,16383,32767,65535,65535,196607,65535,589823,65535,2162687,6356991,16318463,33554431,65535,67174399,268435455,536870911,1073741823,2147483647,2147483647,8589934591,17179869183] gantkeep4_WordPlaces_r9) (.cond (.t 66) (.seq (.ops gantkeep4_WordPlaces_r10) .ret) .skip)) (.ops gantkeep4_WordPlaces_r11))))) (.ops gantkeep4_WordPlaces_r12))))
def gantkeep4_WordPlaces_r13 : List LOper := [
  ⟨some 2,none,.mv false (.c (.bool true))⟩]
def gantkeep4_WordPlaces_f : LFunc := ⟨75,1,[.tmp 2],(.seq (.ops gantkeep4_WordPlaces_r0) (.seq (.ops gantkeep4_WordPlaces_r1) (.seq (.seq (.ops gantkeep4_WordPlaces_r2) (.cond (.t 20) (.seq (.ops gantkeep4_WordPlaces_r3) .ret) .skip)) (.seq (.ops gantkeep4_WordPlaces_r4) (.seq (.seq (.ops gantkeep4_WordPlaces_r5) (.block 0 (.loop [0,5,6,22,23,24] gantkeep4_WordPlaces_b0))) (.seq (.ops gantkeep4_WordPlaces_r13) .ret))))))⟩
def gantkeep4_WordPlaces_v : VFunc := ⟨gantkeep4_WordPlaces_f,true,false,false⟩
theorem gantkeep4_WordPlaces_ok : preFunc Try.prog ⟨[],[],[]⟩ Try.f3 [[0,5,6,22,23,24]] = some gantkeep4_WordPlaces_f := by kernel_rfl

-- gantry/gantkeep4.WordBlanks
def gantkeep4_WordBlanks_r0 : List LOper := [
  ⟨some 4,none,.mv false (.c (.bool false))⟩]
def gantkeep4_WordBlanks_r1 : List LOper := [
  ⟨some 14,none,.mv false (.t 0)⟩,
  ⟨some 15,none,.call false 6 [(.t 14)]⟩,
  ⟨some 13,none,.mv false (.t 15)⟩,
  ⟨some 16,none,.extract 0 (.t 13)⟩,
  ⟨some 17,none,.extract 1 (.t 13)⟩,
  ⟨some 5,none,.mv false (.t 16)⟩,
  ⟨some 6,none,.mv false (.t 17)⟩]
def gantkeep4_WordBlanks_r2 : List LOper := [
  ⟨some 18,none,.call false 7 []⟩,
  ⟨some 19,none,.un .not (.t 18)⟩,
  ⟨some 20,none,.mv false (.t 19)⟩,
  ⟨some 21,some (20,false),.mv false (.t 6)⟩,
  ⟨some 22,some (20,false),.bin .neq (.t 21) (.c (.int .i64 0))⟩,
  ⟨some 23,none,.pick (.t 20) (.c (.bool true)) (.t 22)⟩,
  ⟨some 24,none,.mv false (.t 23)⟩,
  ⟨some 25,some (24,false),.mv false (.t 0)⟩,
  ⟨some 26,some (24,false),.lenS (.t 25)⟩,
  ⟨some 27,some (24,false),.bin .gtr (.t 26) (.c (.int .i64 300))⟩,
  ⟨some 28,none,.pick (.t 24) (.c (.bool true)) (.t 27)⟩]
def gantkeep4_WordBlanks_r3 : List LOper := [
  ⟨some 29,none,.call false 7 []⟩,
  ⟨some 4,none,.mv false (.t 29)⟩]
def gantkeep4_WordBlanks_r4 : List LOper := [
  ⟨some 7,none,.alloc [.nilptr,.nilslice]⟩]
def gantkeep4_WordBlanks_r5 : List LOper := [
  ⟨some 30,none,.mv false (.t 5)⟩,
  ⟨some 31,none,.lenL (.t 30)⟩,
  ⟨some 32,none,.mv false (.c (.int .i64 0))⟩]
def gantkeep4_WordBlanks_r6 : List LOper := [
  ⟨some 33,none,.bin .lss (.t 32) (.t 31)⟩]
def gantkeep4_WordBlanks_r7 : List LOper := [
  ⟨some 34,none,.mv false (.t 32)⟩,
  ⟨some 35,none,.indexAddr 3 (.t 30) (.t 32)⟩,
  ⟨some 36,none,.load false true 3 (.t 35)⟩,
  ⟨some 9,none,.alloc [.int .i64 0,.int .i64 0,.str []]⟩,
  ⟨some 8,none,.mv false (.t 34)⟩,
  ⟨none,none,.store 3 (.t 9) (.t 36)⟩]
def gantkeep4_WordBlanks_r8 : List LOper := [
  ⟨some 10,none,.mv false (.c (.int .i64 0))⟩]
def gantkeep4_WordBlanks_r9 : List LOper := [
  ⟨some 37,none,.mv false (.t 8)⟩,
  ⟨some 38,none,.mv false (.t 1)⟩,
  ⟨some 39,none,.lenL (.t 38)⟩,
  ⟨some 40,none,.bin .lss (.t 37) (.t 39)⟩]
def gantkeep4_WordBlanks_r10 : List LOper := [
  ⟨some 41,none,.mv false (.t 1)⟩,
  ⟨some 42,none,.mv false (.t 8)⟩,
  ⟨some 43,none,.indexAddr 1 (.t 41) (.t 42)⟩,
  ⟨some 44,none,.load false false 1 (.t 43)⟩,
  ⟨some 10,none,.mv false (.t 44)⟩]
def gantkeep4_WordBlanks_r11 : List LOper := [
  ⟨some 45,none,.bslice false 5 1 [.str [],.str [],.str [],.str [],.str []] [(0,1,(.c (.str [32]))),(1,1,(.c (.str [10]))),(2,1,(.c (.str [32,32,10,32]))),(3,1,(.c (.str [32,35,32,97,32,59,32,98,10]))),(4,1,(.c (.str [35,123,10])))]⟩,
  ⟨some 46,none,.mv false (.t 10)⟩,
  ⟨some 47,none,.call false 10 [(.t 46),(.c (.int .i64 5))]⟩,
  ⟨some 48,none,.indexAddr 1 (.t 45) (.t 47)⟩,
  ⟨some 49,none,.load false false 1 (.t 48)⟩,
  ⟨some 50,none,.call false 9 [(.t 7),(.t 49)]⟩]
def gantkeep4_WordBlanks_r12 : List LOper := [
  ⟨some 51,none,.fieldAddr 2 (.t 9)⟩,
  ⟨some 52,none,.load false false 1 (.t 51)⟩,
  ⟨some 53,none,.call false 9 [(.t 7),(.t 52)]⟩]
def gantkeep4_WordBlanks_r13 : List LOper := [
  ⟨some 54,none,.bin .add (.t 32) (.c (.int .i64 1))⟩,
  ⟨some 32,none,.mv false (.t 54)⟩]
def gantkeep4_WordBlanks_b0 : LCode := (.seq (.ops gantkeep4_WordBlanks_r6) (.seq (.cond (.t 33) .skip (.exit 0)) (.seq (.block 1 (.seq (.ops gantkeep4_WordBlanks_r7) (.seq (.ops gantkeep4_WordBlanks_r8) (.seq (.seq (.ops gantkeep4_WordBlanks_r9) (.cond (.t 40) (.ops gantkeep4_WordBlanks_r10) .skip)) (.seq (.ops gantkeep4_WordBlanks_r11) (.ops gantkeep4_WordBlanks_r12)))))) (.ops gantkeep4_WordBlanks_r13))))
def gantkeep4_WordBlanks_r14 : List LOper := [
  ⟨some 56,none,.call false 11 [(.t 7)]⟩,
  ⟨some 57,none,.call false 6 [(.t 56)]⟩,
  ⟨some 55,none,.mv false (.t 57)⟩,
  ⟨some 58,none,.extract 0 (.t 55)⟩,
  ⟨some 59,none,.extract 1 (.t 55)⟩,
  ⟨some 11,none,.mv false (.t 58)⟩,
  ⟨some 12,none,.mv false (.t 59)⟩]
def gantkeep4_WordBlanks_r15 : List LOper := [
  ⟨some 60,none,.mv false (.t 12)⟩,
  ⟨some 61,none,.bin .eql (.t 60) (.c (.int .i64 0))⟩,
  ⟨some 62,none,.mv false (.t 61)⟩,
  ⟨some 63,some (62,true),.mv false (.t 5)⟩,
  ⟨some 64,some (62,true),.call false 13 [(.t 63)]⟩,
  ⟨some 65,some (62,true),.mv false (.t 11)⟩,
  ⟨some 66,some (62,true),.call false 13 [(.t 65)]⟩,
  ⟨some 67,some (62,true),.call false 12 [(.t 64),(.t 66)]⟩,
  ⟨some 68,none,.pick (.t 62) (.t 67) (.c (.bool false))⟩,
  ⟨some 4,none,.mv false (.t 68)⟩]
def gantkeep4_WordBlanks_f : LFunc := ⟨69,2,[.tmp 4],(.seq (.ops gantkeep4_WordBlanks_r0) (.seq (.ops gantkeep4_WordBlanks_r1) (.seq (.seq (.ops gantkeep4_WordBlanks_r2) (.cond (.t 28) (.seq (.ops gantkeep4_WordBlanks_r3) .ret) .skip)) (.seq (.ops gantkeep4_WordBlanks_r4) (.seq (.seq (.ops gantkeep4_WordBlanks_r5) (.block 0 (.loop [1,5,7,30,31,32] gantkeep4_WordBlanks_b0))) (.seq (.ops gantkeep4_WordBlanks_r14) (.seq (.ops gantkeep4_WordBlanks_r15) .ret)))))))⟩
def gantkeep4_WordBlanks_v : VFunc := ⟨gantkeep4_WordBlanks_f,true,false,false⟩
theorem gantkeep4_WordBlanks_ok : preFunc Try.prog ⟨[],[],[]⟩ Try.f4 [[1,5,7,30,31,32]] = some gantkeep4_WordBlanks_f := by kernel_rfl

-- gantry/gantkeep4.WordBack
def gantkeep4_WordBack_r0 : List LOper := [
  ⟨some 2,none,.mv false (.c (.bool false))⟩]
def gantkeep4_WordBack_r1 : List LOper := [
  ⟨some 9,none,.mv false (.t 0)⟩,
  ⟨some 10,none,.call false 6 [(.t 9)]⟩,
  ⟨some 8,none,.mv false (.t 10)⟩,
  ⟨some 11,none,.extract 0 (.t 8)⟩,
  ⟨some 12,none,.extract 1 (.t 8)⟩,
  ⟨some 3,none,.mv false (.t 11)⟩,
  ⟨some 4,none,.mv false (.t 12)⟩]
def gantkeep4_WordBack_r2 : List LOper := [
  ⟨some 13,none,.call false 7 []⟩,
  ⟨some 14,none,.un .not (.t 13)⟩,
  ⟨some 15,none,.mv false (.t 14)⟩,
  ⟨some 16,some (15,false),.mv false (.t 4)⟩,
  ⟨some 17,some (15,false),.bin .neq (.t 16) (.c (.int .i64 0))⟩,
  ⟨some 18,none,.pick (.t 15) (.c (.bool true)) (.t 17)⟩]
def gantkeep4_WordBack_r3 : List LOper := [
  ⟨some 19,none,.call false 7 []⟩,
  ⟨some 2,none,.mv false (.t 19)⟩]
def gantkeep4_WordBack_r4 : List LOper := [
  ⟨some 21,none,.mv false (.t 3)⟩,
  ⟨some 22,none,.call false 14 [(.t 21)]⟩,
  ⟨some 20,none,.mv false (.t 22)⟩,
  ⟨some 23,none,.extract 0 (.t 20)⟩,
  ⟨some 24,none,.extract 1 (.t 20)⟩,
  ⟨some 5,none,.mv false (.t 23)⟩,
  ⟨some 4,none,.mv false (.t 24)⟩]
def gantkeep4_WordBack_r5 : List LOper := [
  ⟨some 25,none,.mv false (.t 4)⟩,
  ⟨some 26,none,.bin .neq (.t 25) (.c (.int .i64 0))⟩]
def gantkeep4_WordBack_r6 : List LOper := [
  ⟨some 27,none,.mv false (.t 4)⟩,
  ⟨some 28,none,.bin .eql (.t 27) (.c (.int .i64 2))⟩,
  ⟨some 2,none,.mv false (.t 28)⟩]
def gantkeep4_WordBack_r7 : List LOper := [
  ⟨some 30,none,.mv false (.t 5)⟩,
  ⟨some 31,none,.call false 6 [(.t 30)]⟩,
  ⟨some 29,none,.mv false (.t 31)⟩,
  ⟨some 32,none,.extract 0 (.t 29)⟩,
  ⟨some 33,none,.extract 1 (.t 29)⟩,
  ⟨some 6,none,.mv false (.t 32)⟩,
  ⟨some 7,none,.mv false (.t 33)⟩]
def gantkeep4_WordBack_r8 : List LOper := [
  ⟨some 34,none,.mv false (.t 7)⟩,
  ⟨some 35,none,.bin .eql (.t 34) (.c (.int .i64 0))⟩,
  ⟨some 36,none,.mv false (.t 35)⟩,
  ⟨some 37,some (36,true),.mv false (.t 3)⟩,
  ⟨some 38,some (36,true),.call false 13 [(.t 37)]⟩,
  ⟨some 39,some (36,true),.mv false (.t 6)⟩,
  ⟨some 40,some (36,true),.call false 13 [(.t 39)]⟩,
  ⟨some 41,some (36,true),.call false 12 [(.t 38),(.t 40)]⟩,
  ⟨some 42,none,.pick (.t 36) (.t 41) (.c (.bool false))⟩,
  ⟨some 2,none,.mv false (.t 42)⟩]
def gantkeep4_WordBack_f : LFunc := ⟨43,1,[.tmp 2],(.seq (.ops gantkeep4_WordBack_r0) (.seq (.ops gantkeep4_WordBack_r1) (.seq (.seq (.ops gantkeep4_WordBack_r2) (.cond (.t 18) (.seq (.ops gantkeep4_WordBack_r3) .ret) .skip)) (.seq (.ops gantkeep4_WordBack_r4) (.seq (.seq (.ops gantkeep4_WordBack_r5) (.cond (.t 26) (.seq (.ops gantkeep4_WordBack_r6) .ret) .skip)) (.seq (.ops gantkeep4_WordBack_r7) (.seq (.ops gantkeep4_WordBack_r8) .ret)))))))⟩
def gantkeep4_WordBack_v : VFunc := ⟨gantkeep4_WordBack_f,true,false,false⟩
theorem gantkeep4_WordBack_ok : preFunc Try.prog ⟨[],[],[]⟩ Try.f5 [] = some gantkeep4_WordBack_f := by kernel_rfl

-- gantry/word.Read
def word_Read_r0 : List LOper := [
  ⟨some 2,none,.mv false (.c (.nilslice))⟩,
  ⟨some 3,none,.mv false (.c (.int .i64 0))⟩]
def word_Read_r1 : List LOper := [
  ⟨some 8,none,.mv false (.t 0)⟩,
  ⟨some 9,none,.lenS (.t 8)⟩,
  ⟨some 10,none,.bin .gtr (.t 9) (.c (.int .i64 4096))⟩]
def word_Read_r2 : List LOper := [
  ⟨some 2,none,.mv false (.c (.nilslice))⟩,
  ⟨some 3,none,.mv false (.c (.int .i64 2))⟩]
def word_Read_r3 : List LOper := [
  ⟨some 4,none,.mv true (.c (.nilslice))⟩]
def word_Read_r4 : List LOper := [
  ⟨some 11,none,.mv false (.t 0)⟩,
  ⟨some 12,none,.call false 15 [(.t 11),(.c (.int .i64 0))]⟩,
  ⟨some 5,none,.mv false (.t 12)⟩]
def word_Read_r5 : List LOper := [
  ⟨some 13,none,.mv false (.t 5)⟩,
  ⟨some 14,none,.mv false (.t 0)⟩,
  ⟨some 15,none,.lenS (.t 14)⟩,
  ⟨some 16,none,.bin .lss (.t 13) (.t 15)⟩]
def word_Read_r6 : List LOper := [
  ⟨some 18,none,.mv false (.t 0)⟩,
  ⟨some 19,none,.mv false (.t 5)⟩,
  ⟨some 20,none,.call false 16 [(.t 18),(.t 19)]⟩,
  ⟨some 17,none,.mv false (.t 20)⟩,
  ⟨some 21,none,.extract 0 (.t 17)⟩,
  ⟨some 22,none,.extract 1 (.t 17)⟩,
  ⟨some 6,none,.alloc [.int .i64 0,.int .i64 0,.str []]⟩,
  ⟨none,none,.store 3 (.t 6) (.t 21)⟩,
  ⟨some 7,none,.mv false (.t 22)⟩]
def word_Read_r7 : List LOper := [
  ⟨some 23,none,.mv false (.t 7)⟩,
  ⟨some 24,none,.bin .neq (.t 23) (.c (.int .i64 0))⟩]
def word_Read_r8 : List LOper := [
  ⟨some 25,none,.mv false (.t 7)⟩,
  ⟨some 2,none,.mv false (.c (.nilslice))⟩,
  ⟨some 3,none,.mv false (.t 25)⟩]
def word_Read_r9 : List LOper := [
  ⟨some 26,none,.mv true (.t 4)⟩,
  ⟨some 27,none,.load false true 3 (.t 6)⟩,
  ⟨some 28,none,.bslice false 1 3 [.int .i64 0,.int .i64 0,.str []] [(0,3,(.t 27))]⟩,
  ⟨some 29,none,.append true 3 32 (.t 26) (.t 28)⟩,
  ⟨some 4,none,.mv true (.t 29)⟩]
def word_Read_r10 : List LOper := [
  ⟨some 30,none,.mv false (.t 0)⟩,
  ⟨some 31,none,.mv false (.t 5)⟩,
  ⟨some 32,none,.fieldAddr 2 (.t 6)⟩,
  ⟨some 33,none,.load false false 1 (.t 32)⟩,
  ⟨some 34,none,.lenS (.t 33)⟩,
  ⟨some 35,none,.bin .add (.t 31) (.t 34)⟩,
  ⟨some 36,none,.call false 15 [(.t 30),(.t 35)]⟩,
  ⟨some 5,none,.mv false (.t 36)⟩]
def word_Read_b0 : LCode := (.seq (.seq (.ops word_Read_r5) (.cond (.t 16) .skip (.exit 0))) (.block 1 (.seq (.ops word_Read_r6) (.seq (.seq (.ops word_Read_r7) (.cond (.t 24) (.seq (.ops word_Read_r8) .ret) .skip)) (.seq (.ops word_Read_r9) (.ops word_Read_r10))))))
def word_Read_r11 : List LOper := [
  ⟨some 37,none,.mv false (.t 4)⟩,
  ⟨some 2,none,.mv false (.t 37)⟩,
  ⟨some 3,none,.mv false (.c (.int .i64 0))⟩]
def word_Read_f : LFunc := ⟨38,1,[.tmp 2,.tmp 3],(.seq (.ops word_Read_r0) (.seq (.seq (.ops word_Read_r1) (.cond (.t 10) (.seq (.ops word_Read_r2) .ret) .skip)) (.seq (.ops word_Read_r3) (.seq (.seq (.ops word_Read_r4) (.block 0 (.loop [0,4,5] word_Read_b0))) (.seq (.ops word_Read_r11) .ret)))))⟩
def word_Read_v : VFunc := ⟨word_Read_f,true,false,false⟩
theorem word_Read_ok : preFunc Try.prog ⟨[4,26,29],[],[]⟩ Try.f6 [[0,4,5]] = some word_Read_f := by kernel_rfl

-- gantry/gantkeep4.worded
def gantkeep4_worded_r0 : List LOper := [
  ⟨some 0,none,.mv false (.c (.bool false))⟩]
def gantkeep4_worded_r1 : List LOper := [
  ⟨some 4,none,.call false 6 [(.c (.str [115,101,101,32,98,111,108,116,59]))]⟩,
  ⟨some 3,none,.mv false (.t 4)⟩,
  ⟨some 5,none,.extract 0 (.t 3)⟩,
  ⟨some 6,none,.extract 1 (.t 3)⟩,
  ⟨some 1,none,.mv false (.t 5)⟩,
  ⟨some 2,none,.mv false (.t 6)⟩]
def gantkeep4_worded_r2 : List LOper := [
  ⟨some 7,none,.mv false (.t 2)⟩,
  ⟨some 8,none,.bin .eql (.t 7) (.c (.int .i64 0))⟩,
  ⟨some 9,none,.mv false (.t 8)⟩,
  ⟨some 10,some (9,true),.mv false (.t 1)⟩,
  ⟨some 11,some (9,true),.lenL (.t 10)⟩,
  ⟨some 12,some (9,true),.bin .eql (.t 11) (.c (.int .i64 3))⟩,
  ⟨some 13,none,.pick (.t 9) (.t 12) (.c (.bool false))⟩,
  ⟨some 14,none,.mv false (.t 13)⟩,
  ⟨some 15,some (14,true),.mv false (.t 1)⟩,
  ⟨some 16,some (14,true),.indexAddr 3 (.t 15) (.c (.int .i64 2))⟩,
  ⟨some 17,some (14,true),.fieldAddr 1 (.t 16)⟩,
  ⟨some 18,some (14,true),.load false false 1 (.t 17)⟩,
  ⟨some 19,some (14,true),.bin .eql (.t 18) (.c (.int .i64 8))⟩,
  ⟨some 20,none,.pick (.t 14) (.t 19) (.c (.bool false))⟩,
  ⟨some 0,none,.mv false (.t 20)⟩]
def gantkeep4_worded_f : LFunc := ⟨21,0,[.tmp 0],(.seq (.ops gantkeep4_worded_r0) (.seq (.ops gantkeep4_worded_r1) (.seq (.ops gantkeep4_worded_r2) .ret)))⟩
def gantkeep4_worded_v : VFunc := ⟨gantkeep4_worded_f,true,false,false⟩
theorem gantkeep4_worded_ok : preFunc Try.prog ⟨[],[],[]⟩ Try.f7 [] = some gantkeep4_worded_f := by kernel_rfl

-- gantry/word.Line
def word_Line_r0 : List LOper := [
  ⟨some 4,none,.mv false (.c (.int .i64 0))⟩]
def word_Line_r1 : List LOper := [
  ⟨some 5,none,.mv false (.t 1)⟩,
  ⟨some 6,none,.max2 [(.t 5),(.c (.int .i64 0))]⟩,
  ⟨some 7,none,.mv false (.t 0)⟩,
  ⟨some 8,none,.lenS (.t 7)⟩,
  ⟨some 9,none,.min2 [(.t 6),(.t 8)]⟩,
  ⟨some 1,none,.mv false (.t 9)⟩]
def word_Line_r2 : List LOper := [
  ⟨some 10,none,.mv false (.t 0)⟩,
  ⟨some 11,none,.mv false (.t 1)⟩,
  ⟨some 12,none,.slc 0 (.t 10) none (some (.t 11)) none⟩,
  ⟨some 13,none,.call false 17 [(.t 12),(.c (.str [10]))]⟩,
  ⟨some 14,none,.bin .add (.c (.int .i64 1)) (.t 13)⟩,
  ⟨some 4,none,.mv false (.t 14)⟩]
def word_Line_f : LFunc := ⟨15,2,[.tmp 4],(.seq (.ops word_Line_r0) (.seq (.ops word_Line_r1) (.seq (.ops word_Line_r2) .ret)))⟩
def word_Line_v : VFunc := ⟨word_Line_f,true,false,false⟩
theorem word_Line_ok : preFunc Try.prog ⟨[],[],[]⟩ Try.f8 [] = some word_Line_f := by kernel_rfl

-- gantry/gantmake.Below
def gantmake_Below_r0 : List LOper := [
  ⟨some 4,none,.mv false (.c (.int .i64 0))⟩]
def gantmake_Below_r1 : List LOper := [
  ⟨some 5,none,.mv false (.t 0)⟩,
  ⟨some 6,none,.mv false (.t 1)⟩,
  ⟨some 7,none,.bin .rem (.t 5) (.t 6)⟩,
  ⟨some 0,none,.mv false (.t 7)⟩]
def gantmake_Below_r2 : List LOper := [
  ⟨some 8,none,.mv false (.t 0)⟩,
  ⟨some 9,none,.bin .lss (.t 8) (.c (.int .i64 0))⟩]
def gantmake_Below_r3 : List LOper := [
  ⟨some 10,none,.mv false (.t 0)⟩,
  ⟨some 11,none,.mv false (.t 1)⟩,
  ⟨some 12,none,.bin .add (.t 10) (.t 11)⟩,
  ⟨some 0,none,.mv false (.t 12)⟩]
def gantmake_Below_r4 : List LOper := [
  ⟨some 13,none,.mv false (.t 0)⟩,
  ⟨some 4,none,.mv false (.t 13)⟩]
def gantmake_Below_f : LFunc := ⟨14,2,[.tmp 4],(.seq (.ops gantmake_Below_r0) (.seq (.ops gantmake_Below_r1) (.seq (.seq (.ops gantmake_Below_r2) (.cond (.t 9) (.ops gantmake_Below_r3) .skip)) (.seq (.ops gantmake_Below_r4) .ret))))⟩
def gantmake_Below_v : VFunc := ⟨gantmake_Below_f,true,false,false⟩
theorem gantmake_Below_ok : preFunc Try.prog ⟨[],[],[]⟩ Try.f10 [] = some gantmake_Below_f := by kernel_rfl

-- slices.Equal[[]gantry/word.Word,gantry/word.Word]
def slices_Equal_gantrywordWord_r0 : List LOper := [
  ⟨some 4,none,.mv false (.c (.bool false))⟩]
def slices_Equal_gantrywordWord_r1 : List LOper := [
  ⟨some 6,none,.mv false (.t 0)⟩,
  ⟨some 7,none,.lenL (.t 6)⟩,
  ⟨some 8,none,.mv false (.t 1)⟩,
  ⟨some 9,none,.lenL (.t 8)⟩,
  ⟨some 10,none,.bin .neq (.t 7) (.t 9)⟩]
def slices_Equal_gantrywordWord_r2 : List LOper := [
  ⟨some 4,none,.mv false (.c (.bool false))⟩]
def slices_Equal_gantrywordWord_r3 : List LOper := [
  ⟨some 11,none,.mv false (.t 0)⟩,
  ⟨some 12,none,.lenL (.t 11)⟩,
  ⟨some 13,none,.mv false (.c (.int .i64 0))⟩]
def slices_Equal_gantrywordWord_r4 : List LOper := [
  ⟨some 14,none,.bin .lss (.t 13) (.t 12)⟩]
def slices_Equal_gantrywordWord_r5 : List LOper := [
  ⟨some 15,none,.mv false (.t 13)⟩,
  ⟨some 5,none,.mv false (.t 15)⟩]
def slices_Equal_gantrywordWord_r6 : List LOper := [
  ⟨some 16,none,.mv false (.t 0)⟩,
  ⟨some 17,none,.mv false (.t 5)⟩,
  ⟨some 18,none,.indexAddr 3 (.t 16) (.t 17)⟩,
  ⟨some 19,none,.load false true 3 (.t 18)⟩,
  ⟨some 20,none,.mv false (.t 1)⟩,
  ⟨some 21,none,.mv false (.t 5)⟩,
  ⟨some 22,none,.indexAddr 3 (.t 20) (.t 21)⟩,
  ⟨some 23,none,.load false true 3 (.t 22)⟩,
  ⟨some 24,none,.eqv true (.struct [.i,.i,.s]) (.t 19) (.t 23)⟩]
theorem slices_Equal_gantrywordWord_r6_d : drawC [0,0,3,7,0,0,48,112,255] [
  ⟨some 16,none,.mv false (.t 0)⟩,
  ⟨some 17,none,.mv false (.t 5)⟩,
  ⟨some 18,none,.indexAddr 3 (.t 16) (.t 17)⟩,
  ⟨some 19,none,.load false true 3 (.t 18)⟩,
  ⟨some 20,none,.mv false (.t 1)⟩,
  ⟨some 21,none,.mv false (.t 5)⟩,
  ⟨some 22,none,.indexAddr 3 (.t 20) (.t 21)⟩,
  ⟨some 23,none,.load false true 3 (.t 22)⟩,
  ⟨some 24,none,.eqv true (.struct [.i,.i,.s]) (.t 19) (.t 23)⟩] = true := by kernel_rfl
def slices_Equal_gantrywordWord_r7 : List LOper := [
  ⟨some 4,none,.mv false (.c (.bool false))⟩]
def slices_Equal_gantrywordWord_r8 : List LOper := [
  ⟨some 25,none,.bin .add (.t 13) (.c (.int .i64 1))⟩,
  ⟨some 13,none,.mv false (.t 25)⟩]
def slices_Equal_gantrywordWord_b0 : LCode := (.seq (.ops slices_Equal_gantrywordWord_r4) (.seq (.cond (.t 14) .skip (.exit 0)) (.seq (.block 1 (.seq (.ops slices_Equal_gantrywordWord_r5) (.seq (.dops [0,0,3,7,0,0,48,112,255] slices_Equal_gantrywordWord_r6) (.cond (.t 24) (.seq (.ops slices_Equal_gantrywordWord_r7) .ret) .skip)))) (.ops slices_Equal_gantrywordWord_r8))))
def slices_Equal_gantrywordWord_r9 : List LOper := [
  ⟨some 4,none,.mv false (.c (.bool true))⟩]
def slices_Equal_gantrywordWord_f : LFunc := ⟨26,2,[.tmp 4],(.seq (.ops slices_Equal_gantrywordWord_r0) (.seq (.seq (.ops slices_Equal_gantrywordWord_r1) (.cond (.t 10) (.seq (.ops slices_Equal_gantrywordWord_r2) .ret) .skip)) (.seq (.seq (.ops slices_Equal_gantrywordWord_r3) (.block 0 (.loop [0,1,12,13] slices_Equal_gantrywordWord_b0))) (.seq (.ops slices_Equal_gantrywordWord_r9) .ret))))⟩
def slices_Equal_gantrywordWord_v : VFunc := ⟨slices_Equal_gantrywordWord_f,true,false,false⟩
theorem slices_Equal_gantrywordWord_ok : preFunc Try.prog ⟨[],[],[]⟩ Try.f12 [[0,1,12,13]] = some slices_Equal_gantrywordWord_f := by kernel_rfl

-- gantry/gantkeep4.texts
def gantkeep4_texts_r0 : List LOper := [
  ⟨some 2,none,.mv false (.c (.nilslice))⟩]
def gantkeep4_texts_r1 : List LOper := [
  ⟨some 5,none,.mv false (.t 0)⟩,
  ⟨some 6,none,.call false 19 [(.t 5)]⟩,
  ⟨some 3,none,.mv false (.t 6)⟩]
def gantkeep4_texts_r2 : List LOper := [
  ⟨some 7,none,.mv false (.t 3)⟩,
  ⟨some 8,none,.lenL (.t 7)⟩,
  ⟨some 9,none,.mv false (.c (.int .i64 0))⟩]
def gantkeep4_texts_r3 : List LOper := [
  ⟨some 10,none,.bin .lss (.t 9) (.t 8)⟩]
def gantkeep4_texts_r4 : List LOper := [
  ⟨some 11,none,.mv false (.t 9)⟩,
  ⟨some 4,none,.mv false (.t 11)⟩]
def gantkeep4_texts_r5 : List LOper := [
  ⟨some 12,none,.mv false (.t 3)⟩,
  ⟨some 13,none,.mv false (.t 4)⟩,
  ⟨some 14,none,.indexAddr 3 (.t 12) (.t 13)⟩,
  ⟨some 15,none,.fieldAddr 1 (.t 14)⟩,
  ⟨none,none,.store 1 (.t 15) (.c (.int .i64 0))⟩]
def gantkeep4_texts_r6 : List LOper := [
  ⟨some 16,none,.bin .add (.t 9) (.c (.int .i64 1))⟩,
  ⟨some 9,none,.mv false (.t 16)⟩]
def gantkeep4_texts_b0 : LCode := (.seq (.ops gantkeep4_texts_r3) (.seq (.cond (.t 10) .skip (.exit 0)) (.seq (.block 1 (.seq (.ops gantkeep4_texts_r4) (.ops gantkeep4_texts_r5))) (.ops gantkeep4_texts_r6))))
def gantkeep4_texts_r7 : List LOper := [
  ⟨some 17,none,.mv false (.t 3)⟩,
  ⟨some 2,none,.mv false (.t 17)⟩]
def gantkeep4_texts_f : LFunc := ⟨18,1,[.tmp 2],(.seq (.ops gantkeep4_texts_r0) (.seq (.ops gantkeep4_texts_r1) (.seq (.seq (.ops gantkeep4_texts_r2) (.block 0 (.loop [3,8,9] gantkeep4_texts_b0))) (.seq (.ops gantkeep4_texts_r7) .ret))))⟩
def gantkeep4_texts_v : VFunc := ⟨gantkeep4_texts_f,true,false,false⟩
theorem gantkeep4_texts_ok : preFunc Try.prog ⟨[],[],[]⟩ Try.f13 [[3,8,9]] = some gantkeep4_texts_f := by kernel_rfl

-- gantry/word.Text
def word_Text_r0 : List LOper := [
  ⟨some 2,none,.mv false (.c (.str []))⟩,
  ⟨some 3,none,.mv false (.c (.int .i64 0))⟩]
def word_Text_r1 : List LOper := [
  ⟨some 4,none,.mv true (.c (.nilslice))⟩]
def word_Text_r2 : List LOper := [
  ⟨some 8,none,.mv false (.t 0)⟩,
  ⟨some 9,none,.lenL (.t 8)⟩,
  ⟨some 10,none,.mv false (.c (.int .i64 0))⟩]
def word_Text_r3 : List LOper := [
  ⟨some 11,none,.bin .lss (.t 10) (.t 9)⟩]
def word_Text_r4 : List LOper := [
  ⟨some 12,none,.indexAddr 3 (.t 8) (.t 10)⟩,
  ⟨some 13,none,.load false true 3 (.t 12)⟩,
  ⟨some 6,none,.alloc [.int .i64 0,.int .i64 0,.str []]⟩,
  ⟨none,none,.store 3 (.t 6) (.t 13)⟩]
def word_Text_r5 : List LOper := [
  ⟨some 14,none,.load false true 3 (.t 6)⟩,
  ⟨some 15,none,.call false 20 [(.t 14)]⟩,
  ⟨some 16,none,.un .not (.t 15)⟩]
def word_Text_r6 : List LOper := [
  ⟨some 2,none,.mv false (.c (.str []))⟩,
  ⟨some 3,none,.mv false (.c (.int .i64 3))⟩]
def word_Text_r7 : List LOper := [
  ⟨some 17,none,.mv true (.t 4)⟩,
  ⟨some 18,none,.fieldAddr 2 (.t 6)⟩,
  ⟨some 19,none,.load false false 1 (.t 18)⟩,
  ⟨some 20,none,.bslice false 1 1 [.str []] [(0,1,(.t 19))]⟩,
  ⟨some 21,none,.append true 1 16 (.t 17) (.t 20)⟩,
  ⟨some 4,none,.mv true (.t 21)⟩]
def word_Text_r8 : List LOper := [
  ⟨some 22,none,.bin .add (.t 10) (.c (.int .i64 1))⟩,
  ⟨some 10,none,.mv false (.t 22)⟩]
def word_Text_b0 : LCode := (.seq (.ops word_Text_r3) (.seq (.cond (.t 11) .skip (.exit 0)) (.seq (.block 1 (.seq (.ops word_Text_r4) (.seq (.seq (.ops word_Text_r5) (.cond (.t 16) (.seq (.ops word_Text_r6) .ret) .skip)) (.ops word_Text_r7)))) (.ops word_Text_r8))))
def word_Text_r9 : List LOper := [
  ⟨some 23,none,.mv false (.t 4)⟩,
  ⟨some 24,none,.call false 21 [(.t 23),(.c (.str [32]))]⟩,
  ⟨some 7,none,.mv false (.t 24)⟩]
def word_Text_r10 : List LOper := [
  ⟨some 25,none,.mv false (.t 7)⟩,
  ⟨some 26,none,.lenS (.t 25)⟩,
  ⟨some 27,none,.bin .gtr (.t 26) (.c (.int .i64 4096))⟩]
def word_Text_r11 : List LOper := [
  ⟨some 2,none,.mv false (.c (.str []))⟩,
  ⟨some 3,none,.mv false (.c (.int .i64 2))⟩]
def word_Text_r12 : List LOper := [
  ⟨some 28,none,.mv false (.t 7)⟩,
  ⟨some 2,none,.mv false (.t 28)⟩,
  ⟨some 3,none,.mv false (.c (.int .i64 0))⟩]
def word_Text_f : LFunc := ⟨29,1,[.tmp 2,.tmp 3],(.seq (.ops word_Text_r0) (.seq (.ops word_Text_r1) (.seq (.seq (.ops word_Text_r2) (.block 0 (.loop [4,8,9,10] word_Text_b0))) (.seq (.ops word_Text_r9) (.seq (.seq (.ops word_Text_r10) (.cond (.t 27) (.seq (.ops word_Text_r11) .ret) .skip)) (.seq (.ops word_Text_r12) .ret))))))⟩
def word_Text_v : VFunc := ⟨word_Text_f,true,false,false⟩
theorem word_Text_ok : preFunc Try.prog ⟨[4,17,21],[],[]⟩ Try.f14 [[4,8,9,10]] = some word_Text_f := by kernel_rfl

-- gantry/word.skip
def word_skip_r0 : List LOper := [
  ⟨some 4,none,.mv false (.c (.int .i64 0))⟩]
def word_skip_r1 : List LOper := [
  ⟨some 5,none,.mv false (.t 1)⟩,
  ⟨some 6,none,.mv false (.t 0)⟩,
  ⟨some 7,none,.lenS (.t 6)⟩,
  ⟨some 8,none,.bin .lss (.t 5) (.t 7)⟩]
def word_skip_r2 : List LOper := [
  ⟨some 11,none,.mv false (.t 0)⟩,
  ⟨some 12,none,.mv false (.t 1)⟩,
  ⟨some 13,none,.index (.t 11) (.t 12)⟩,
  ⟨some 14,none,.call false 22 [(.t 13)]⟩,
  ⟨some 10,none,.mv false (.t 14)⟩]
def word_skip_r3 : List LOper := [
  ⟨some 15,none,.mv false (.t 1)⟩,
  ⟨some 16,none,.bin .add (.t 15) (.c (.int .i64 1))⟩,
  ⟨some 1,none,.mv false (.t 16)⟩]
def word_skip_r4 : List LOper := [
  ⟨some 18,none,.mv false (.t 0)⟩,
  ⟨some 19,none,.mv false (.t 1)⟩,
  ⟨some 20,none,.index (.t 18) (.t 19)⟩,
  ⟨some 21,none,.bin .eql (.t 20) (.c (.int .u8 35))⟩,
  ⟨some 17,none,.mv false (.t 21)⟩]
def word_skip_r5 : List LOper := [
  ⟨some 22,none,.mv false (.t 1)⟩,
  ⟨some 23,none,.mv false (.t 0)⟩,
  ⟨some 24,none,.lenS (.t 23)⟩,
  ⟨some 25,none,.bin .lss (.t 22) (.t 24)⟩,
  ⟨some 26,none,.mv false (.t 25)⟩,
  ⟨some 27,some (26,true),.mv false (.t 0)⟩,
  ⟨some 28,some (26,true),.mv false (.t 1)⟩,
  ⟨some 29,some (26,true),.index (.t 27) (.t 28)⟩,
  ⟨some 30,some (26,true),.bin .neq (.t 29) (.c (.int .u8 10))⟩,
  ⟨some 31,none,.pick (.t 26) (.t 30) (.c (.bool false))⟩]
def word_skip_r6 : List LOper := [
  ⟨some 32,none,.mv false (.t 1)⟩,
  ⟨some 33,none,.bin .add (.t 32) (.c (.int .i64 1))⟩,
  ⟨some 1,none,.mv false (.t 33)⟩]
def word_skip_b1 : LCode := (.seq (.seq (.ops word_skip_r5) (.cond (.t 31) .skip (.exit 3))) (.block 4 (.ops word_skip_r6)))
def word_skip_r7 : List LOper := [
  ⟨some 9,none,.mv false (.t 1)⟩,
  ⟨some 4,none,.mv false (.t 9)⟩]
def word_skip_b0 : LCode := (.seq (.seq (.ops word_skip_r1) (.cond (.t 8) .skip (.exit 0))) (.block 1 (.block 2 (.seq (.ops word_skip_r2) (.cond (.t 10) (.ops word_skip_r3) (.seq (.ops word_skip_r4) (.cond (.t 17) (.block 3 (.loop [0,1] word_skip_b1)) (.seq (.ops word_skip_r7) .ret))))))))
def word_skip_r8 : List LOper := [
  ⟨some 34,none,.mv false (.t 1)⟩,
  ⟨some 4,none,.mv false (.t 34)⟩]
def word_skip_f : LFunc := ⟨35,2,[.tmp 4],(.seq (.ops word_skip_r0) (.seq (.block 0 (.loop [0,1] word_skip_b0)) (.seq (.ops word_skip_r8) .ret)))⟩
def word_skip_v : VFunc := ⟨word_skip_f,true,false,false⟩
theorem word_skip_ok : preFunc Try.prog ⟨[],[],[]⟩ Try.f15 [[0,1],[0,1]] = some word_skip_f := by kernel_rfl

-- gantry/word.one
def word_one_r0 : List LOper := [
  ⟨some 4,none,.alloc [.int .i64 0,.int .i64 0,.str []]⟩,
  ⟨some 5,none,.mv false (.c (.int .i64 0))⟩]
def word_one_r1 : List LOper := [
  ⟨some 9,none,.mv false (.t 1)⟩,
  ⟨some 10,none,.build [.int .i64 0,.int .i64 0,.str []] [(1,1,(.t 9))]⟩,
  ⟨some 6,none,.alloc [.int .i64 0,.int .i64 0,.str []]⟩,
  ⟨none,none,.store 3 (.t 6) (.t 10)⟩]
def word_one_r2 : List LOper := [
  ⟨some 11,none,.mv false (.t 1)⟩,
  ⟨some 12,none,.bin .add (.t 11) (.c (.int .i64 1))⟩,
  ⟨some 7,none,.mv false (.t 12)⟩]
def word_one_r3 : List LOper := [
  ⟨some 13,none,.mv false (.t 0)⟩,
  ⟨some 14,none,.mv false (.t 1)⟩,
  ⟨some 15,none,.index (.t 13) (.t 14)⟩,
  ⟨some 8,none,.mv false (.t 15)⟩]
def word_one_r4 : List LOper := [
  ⟨some 18,none,.mv false (.t 8)⟩,
  ⟨some 19,none,.call false 23 [(.t 18)]⟩,
  ⟨some 17,none,.mv false (.t 19)⟩]
def word_one_r5 : List LOper := [
  ⟨some 20,none,.mv false (.t 0)⟩,
  ⟨some 21,none,.mv false (.t 1)⟩,
  ⟨some 22,none,.call false 24 [(.t 20),(.t 21),(.c (.func 23 []))]⟩,
  ⟨some 23,none,.fieldAddr 0 (.t 6)⟩,
  ⟨none,none,.store 1 (.t 23) (.c (.int .i64 1))⟩,
  ⟨some 7,none,.mv false (.t 22)⟩]
def word_one_r6 : List LOper := [
  ⟨some 25,none,.mv false (.t 8)⟩,
  ⟨some 26,none,.call false 25 [(.t 25)]⟩,
  ⟨some 24,none,.mv false (.t 26)⟩]
def word_one_r7 : List LOper := [
  ⟨some 27,none,.mv false (.t 0)⟩,
  ⟨some 28,none,.mv false (.t 1)⟩,
  ⟨some 29,none,.call false 24 [(.t 27),(.t 28),(.c (.func 25 []))]⟩,
  ⟨some 30,none,.fieldAddr 0 (.t 6)⟩,
  ⟨none,none,.store 1 (.t 30) (.c (.int .i64 2))⟩,
  ⟨some 7,none,.mv false (.t 29)⟩]
def word_one_r8 : List LOper := [
  ⟨some 31,none,.mv false (.t 7)⟩,
  ⟨some 32,none,.bin .add (.t 31) (.c (.int .i64 1))⟩,
  ⟨some 33,none,.mv false (.t 0)⟩,
  ⟨some 34,none,.lenS (.t 33)⟩,
  ⟨some 35,none,.bin .lss (.t 32) (.t 34)⟩,
  ⟨some 36,none,.mv false (.t 35)⟩,
  ⟨some 37,some (36,true),.mv false (.t 0)⟩,
  ⟨some 38,some (36,true),.mv false (.t 7)⟩,
  ⟨some 39,some (36,true),.index (.t 37) (.t 38)⟩,
  ⟨some 40,some (36,true),.bin .eql (.t 39) (.c (.int .u8 47))⟩,
  ⟨some 41,none,.pick (.t 36) (.t 40) (.c (.bool false))⟩,
  ⟨some 42,none,.mv false (.t 41)⟩,
  ⟨some 43,some (42,true),.mv false (.t 0)⟩,
  ⟨some 44,some (42,true),.mv false (.t 7)⟩,
  ⟨some 45,some (42,true),.bin .add (.t 44) (.c (.int .i64 1))⟩,
  ⟨some 46,some (42,true),.index (.t 43) (.t 45)⟩,
  ⟨some 47,some (42,true),.call false 25 [(.t 46)]⟩,
  ⟨some 48,none,.pick (.t 42) (.t 47) (.c (.bool false))⟩]
def word_one_r9 : List LOper := [
  ⟨some 49,none,.mv false (.t 0)⟩,
  ⟨some 50,none,.mv false (.t 7)⟩,
  ⟨some 51,none,.bin .add (.t 50) (.c (.int .i64 1))⟩,
  ⟨some 52,none,.call false 24 [(.t 49),(.t 51),(.c (.func 25 []))]⟩,
  ⟨some 7,none,.mv false (.t 52)⟩]
def word_one_r10 : List LOper := [
  ⟨some 54,none,.mv false (.t 8)⟩,
  ⟨some 55,none,.call false 26 [(.t 54)]⟩,
  ⟨some 53,none,.mv false (.t 55)⟩]
def word_one_r11 : List LOper := [
  ⟨some 56,none,.fieldAddr 0 (.t 6)⟩,
  ⟨none,none,.store 1 (.t 56) (.c (.int .i64 3))⟩]
def word_one_r12 : List LOper := [
  ⟨some 16,none,.build [.int .i64 0,.int .i64 0,.str []] []⟩,
  ⟨none,none,.store 3 (.t 4) (.t 16)⟩,
  ⟨some 5,none,.mv false (.c (.int .i64 15))⟩]
def word_one_r13 : List LOper := [
  ⟨some 57,none,.mv false (.t 0)⟩,
  ⟨some 58,none,.mv false (.t 1)⟩,
  ⟨some 59,none,.mv false (.t 7)⟩,
  ⟨some 60,none,.slc 0 (.t 57) (some (.t 58)) (some (.t 59)) none⟩,
  ⟨some 61,none,.fieldAddr 2 (.t 6)⟩,
  ⟨none,none,.store 1 (.t 61) (.t 60)⟩]
def word_one_r14 : List LOper := [
  ⟨some 62,none,.fieldAddr 0 (.t 6)⟩,
  ⟨some 63,none,.load false false 1 (.t 62)⟩,
  ⟨some 64,none,.bin .eql (.t 63) (.c (.int .i64 1))⟩,
  ⟨some 65,none,.mv false (.t 64)⟩,
  ⟨some 66,some (65,true),.fieldAddr 2 (.t 6)⟩,
  ⟨some 67,some (65,true),.load false false 1 (.t 66)⟩,
  ⟨some 68,some (65,true),.call false 27 [(.t 67)]⟩,
  ⟨some 69,some (65,true),.un .not (.t 68)⟩,
  ⟨some 70,none,.pick (.t 65) (.t 69) (.c (.bool false))⟩,
  ⟨some 71,none,.mv false (.t 70)⟩,
  ⟨some 72,some (71,false),.fieldAddr 0 (.t 6)⟩,
  ⟨some 73,some (71,false),.load false false 1 (.t 72)⟩,
  ⟨some 74,some (71,false),.bin .eql (.t 73) (.c (.int .i64 2))⟩,
  ⟨some 75,some (71,false),.mv false (.t 74)⟩,
  ⟨some 76,some (75,true),.fieldAddr 2 (.t 6)⟩,
  ⟨some 77,some (75,true),.load false false 1 (.t 76)⟩,
  ⟨some 78,some (75,true),.call false 28 [(.t 77)]⟩,
  ⟨some 79,some (75,true),.un .not (.t 78)⟩,
  ⟨some 80,some (71,false),.pick (.t 75) (.t 79) (.c (.bool false))⟩,
  ⟨some 81,none,.pick (.t 71) (.c (.bool true)) (.t 80)⟩]
def word_one_r15 : List LOper := [
  ⟨some 82,none,.build [.int .i64 0,.int .i64 0,.str []] []⟩,
  ⟨none,none,.store 3 (.t 4) (.t 82)⟩,
  ⟨some 5,none,.mv false (.c (.int .i64 2))⟩]
def word_one_r16 : List LOper := [
  ⟨some 83,none,.load false true 3 (.t 6)⟩,
  ⟨none,none,.store 3 (.t 4) (.t 83)⟩,
  ⟨some 5,none,.mv false (.c (.int .i64 0))⟩]
def word_one_f : LFunc := ⟨84,2,[.cell 4 true 3,.tmp 5],(.seq (.ops word_one_r0) (.seq (.ops word_one_r1) (.seq (.ops word_one_r2) (.seq (.seq (.ops word_one_r3) (.block 0 (.seq (.ops word_one_r4) (.cond (.t 17) (.ops word_one_r5) (.seq (.ops word_one_r6) (.cond (.t 24) (.seq (.ops word_one_r7) (.seq (.ops word_one_r8) (.cond (.t 48) (.ops word_one_r9) .skip))) (.seq (.ops word_one_r10) (.cond (.t 53) (.ops word_one_r11) (.seq (.ops word_one_r12) .ret))))))))) (.seq (.ops word_one_r13) (.seq (.seq (.ops word_one_r14) (.cond (.t 81) (.seq (.ops word_one_r15) .ret) .skip)) (.seq (.ops word_one_r16) .ret)))))))⟩
def word_one_v : VFunc := ⟨word_one_f,true,false,false⟩
theorem word_one_ok : preFunc Try.prog ⟨[],[],[]⟩ Try.f16 [] = some word_one_f := by kernel_rfl

-- slices.Clone[[]gantry/word.Word,gantry/word.Word]
def slices_Clone_gantrywordWord_r0 : List LOper := [
  ⟨some 2,none,.mv false (.c (.nilslice))⟩]
def slices_Clone_gantrywordWord_r1 : List LOper := [
  ⟨some 3,none,.mv false (.t 0)⟩,
  ⟨some 4,none,.eqv false .slice (.t 3) (.c (.nilslice))⟩]
def slices_Clone_gantrywordWord_r2 : List LOper := [
  ⟨some 2,none,.mv false (.c (.nilslice))⟩]
def slices_Clone_gantrywordWord_r3 : List LOper := [
  ⟨some 5,none,.bslice true 0 3 [] []⟩,
  ⟨some 6,none,.mv false (.t 0)⟩,
  ⟨some 7,none,.append false 3 32 (.t 5) (.t 6)⟩,
  ⟨some 2,none,.mv false (.t 7)⟩]
def slices_Clone_gantrywordWord_f : LFunc := ⟨8,1,[.tmp 2],(.seq (.ops slices_Clone_gantrywordWord_r0) (.seq (.seq (.ops slices_Clone_gantrywordWord_r1) (.cond (.t 4) (.seq (.ops slices_Clone_gantrywordWord_r2) .ret) .skip)) (.seq (.ops slices_Clone_gantrywordWord_r3) .ret)))⟩
def slices_Clone_gantrywordWord_v : VFunc := ⟨(cloneM false 3 32),false,false,true⟩
theorem slices_Clone_gantrywordWord_ok : preFunc Try.prog ⟨[],[5,7],[]⟩ Try.f19 [] = some slices_Clone_gantrywordWord_f := by kernel_rfl

-- gantry/word.Valid
def word_Valid_r0 : List LOper := [
  ⟨some 1,none,.box (.t 0)⟩,
  ⟨some 2,none,.mv false (.c (.bool false))⟩]
def word_Valid_r1 : List LOper := [
  ⟨some 3,none,.fieldAddr 0 (.t 1)⟩,
  ⟨some 4,none,.load false false 1 (.t 3)⟩]
def word_Valid_r2 : List LOper := [
  ⟨some 6,none,.bin .eql (.t 4) (.c (.int .i64 1))⟩,
  ⟨some 5,none,.mv false (.t 6)⟩]
def word_Valid_r3 : List LOper := [
  ⟨some 7,none,.fieldAddr 2 (.t 1)⟩,
  ⟨some 8,none,.load false false 1 (.t 7)⟩,
  ⟨some 9,none,.call false 27 [(.t 8)]⟩,
  ⟨some 2,none,.mv false (.t 9)⟩]
def word_Valid_r4 : List LOper := [
  ⟨some 11,none,.bin .eql (.t 4) (.c (.int .i64 2))⟩,
  ⟨some 10,none,.mv false (.t 11)⟩]
def word_Valid_r5 : List LOper := [
  ⟨some 12,none,.fieldAddr 2 (.t 1)⟩,
  ⟨some 13,none,.load false false 1 (.t 12)⟩,
  ⟨some 14,none,.call false 28 [(.t 13)]⟩,
  ⟨some 2,none,.mv false (.t 14)⟩]
def word_Valid_r6 : List LOper := [
  ⟨some 16,none,.bin .eql (.t 4) (.c (.int .i64 3))⟩,
  ⟨some 15,none,.mv false (.t 16)⟩]
def word_Valid_r7 : List LOper := [
  ⟨some 17,none,.fieldAddr 2 (.t 1)⟩,
  ⟨some 18,none,.load false false 1 (.t 17)⟩,
  ⟨some 19,none,.lenS (.t 18)⟩,
  ⟨some 20,none,.bin .eql (.t 19) (.c (.int .i64 1))⟩,
  ⟨some 21,none,.mv false (.t 20)⟩,
  ⟨some 22,some (21,true),.fieldAddr 2 (.t 1)⟩,
  ⟨some 23,some (21,true),.load false false 1 (.t 22)⟩,
  ⟨some 24,some (21,true),.index (.t 23) (.c (.int .i64 0))⟩,
  ⟨some 25,some (21,true),.call false 26 [(.t 24)]⟩,
  ⟨some 26,none,.pick (.t 21) (.t 25) (.c (.bool false))⟩,
  ⟨some 2,none,.mv false (.t 26)⟩]
def word_Valid_r8 : List LOper := [
  ⟨some 2,none,.mv false (.c (.bool false))⟩]
def word_Valid_f : LFunc := ⟨27,1,[.tmp 2],(.seq (.ops word_Valid_r0) (.seq (.seq (.ops word_Valid_r1) (.block 0 (.seq (.ops word_Valid_r2) (.cond (.t 5) (.seq (.ops word_Valid_r3) .ret) (.seq (.ops word_Valid_r4) (.cond (.t 10) (.seq (.ops word_Valid_r5) .ret) (.seq (.ops word_Valid_r6) (.cond (.t 15) (.seq (.ops word_Valid_r7) .ret) .skip)))))))) (.seq (.ops word_Valid_r8) .ret)))⟩
def word_Valid_v : VFunc := ⟨word_Valid_f,true,false,false⟩
theorem word_Valid_ok : preFunc Try.prog ⟨[],[],[]⟩ Try.f20 [] = some word_Valid_f := by kernel_rfl

-- gantry/word.blank
def word_blank_r0 : List LOper := [
  ⟨some 2,none,.mv false (.c (.bool false))⟩]
def word_blank_r1 : List LOper := [
  ⟨some 3,none,.mv false (.t 0)⟩,
  ⟨some 4,none,.bin .eql (.t 3) (.c (.int .u8 32))⟩,
  ⟨some 5,none,.mv false (.t 4)⟩,
  ⟨some 6,some (5,false),.mv false (.t 0)⟩,
  ⟨some 7,some (5,false),.bin .eql (.t 6) (.c (.int .u8 10))⟩,
  ⟨some 8,none,.pick (.t 5) (.c (.bool true)) (.t 7)⟩,
  ⟨some 2,none,.mv false (.t 8)⟩]
def word_blank_f : LFunc := ⟨9,1,[.tmp 2],(.seq (.ops word_blank_r0) (.seq (.ops word_blank_r1) .ret))⟩
def word_blank_v : VFunc := ⟨word_blank_f,true,false,false⟩
theorem word_blank_ok : preFunc Try.prog ⟨[],[],[]⟩ Try.f22 [] = some word_blank_f := by kernel_rfl

-- gantry/word.letter
def word_letter_r0 : List LOper := [
  ⟨some 2,none,.mv false (.c (.bool false))⟩]
def word_letter_r1 : List LOper := [
  ⟨some 3,none,.mv false (.t 0)⟩,
  ⟨some 4,none,.bin .geq (.t 3) (.c (.int .u8 97))⟩,
  ⟨some 5,none,.mv false (.t 4)⟩,
  ⟨some 6,some (5,true),.mv false (.t 0)⟩,
  ⟨some 7,some (5,true),.bin .leq (.t 6) (.c (.int .u8 122))⟩,
  ⟨some 8,none,.pick (.t 5) (.t 7) (.c (.bool false))⟩,
  ⟨some 2,none,.mv false (.t 8)⟩]
def word_letter_f : LFunc := ⟨9,1,[.tmp 2],(.seq (.ops word_letter_r0) (.seq (.ops word_letter_r1) .ret))⟩
def word_letter_v : VFunc := ⟨word_letter_f,true,false,false⟩
theorem word_letter_ok : preFunc Try.prog ⟨[],[],[]⟩ Try.f23 [] = some word_letter_f := by kernel_rfl

-- gantry/word.run
def word_run_r0 : List LOper := [
  ⟨some 6,none,.mv false (.c (.int .i64 0))⟩]
def word_run_r1 : List LOper := [
  ⟨some 7,none,.mv false (.t 1)⟩,
  ⟨some 8,none,.mv false (.t 0)⟩,
  ⟨some 9,none,.lenS (.t 8)⟩,
  ⟨some 10,none,.bin .lss (.t 7) (.t 9)⟩,
  ⟨some 11,none,.mv false (.t 10)⟩,
  ⟨some 12,some (11,true),.mv false (.t 2)⟩,
  ⟨some 13,some (11,true),.mv false (.t 0)⟩,
  ⟨some 14,some (11,true),.mv false (.t 1)⟩,
  ⟨some 15,some (11,true),.index (.t 13) (.t 14)⟩,
  ⟨some 16,some (11,true),.callv (.t 12) [(.t 15)]⟩,
  ⟨some 17,none,.pick (.t 11) (.t 16) (.c (.bool false))⟩]
def word_run_r2 : List LOper := [
  ⟨some 18,none,.mv false (.t 1)⟩,
  ⟨some 19,none,.bin .add (.t 18) (.c (.int .i64 1))⟩,
  ⟨some 1,none,.mv false (.t 19)⟩]
def word_run_b0 : LCode := (.seq (.seq (.ops word_run_r1) (.cond (.t 17) .skip (.exit 0))) (.block 1 (.ops word_run_r2)))
def word_run_r3 : List LOper := [
  ⟨some 20,none,.mv false (.t 1)⟩,
  ⟨some 6,none,.mv false (.t 20)⟩]
def word_run_f : LFunc := ⟨21,3,[.tmp 6],(.seq (.ops word_run_r0) (.seq (.block 0 (.loop [0,1,2] word_run_b0)) (.seq (.ops word_run_r3) .ret)))⟩
def word_run_v : VFunc := ⟨word_run_f,true,false,false⟩
theorem word_run_ok : preFunc Try.prog ⟨[],[],[]⟩ Try.f24 [[0,1,2]] = some word_run_f := by kernel_rfl

-- gantry/word.digit
def word_digit_r0 : List LOper := [
  ⟨some 2,none,.mv false (.c (.bool false))⟩]
def word_digit_r1 : List LOper := [
  ⟨some 3,none,.mv false (.t 0)⟩,
  ⟨some 4,none,.bin .geq (.t 3) (.c (.int .u8 48))⟩,
  ⟨some 5,none,.mv false (.t 4)⟩,
  ⟨some 6,some (5,true),.mv false (.t 0)⟩,
  ⟨some 7,some (5,true),.bin .leq (.t 6) (.c (.int .u8 57))⟩,
  ⟨some 8,none,.pick (.t 5) (.t 7) (.c (.bool false))⟩,
  ⟨some 2,none,.mv false (.t 8)⟩]
def word_digit_f : LFunc := ⟨9,1,[.tmp 2],(.seq (.ops word_digit_r0) (.seq (.ops word_digit_r1) .ret))⟩
def word_digit_v : VFunc := ⟨word_digit_f,true,false,false⟩
theorem word_digit_ok : preFunc Try.prog ⟨[],[],[]⟩ Try.f25 [] = some word_digit_f := by kernel_rfl

-- gantry/word.sign
def word_sign_r0 : List LOper := [
  ⟨some 2,none,.mv false (.c (.bool false))⟩]
def word_sign_r1 : List LOper := [
  ⟨some 3,none,.mv false (.t 0)⟩,
  ⟨some 4,none,.bin .eql (.t 3) (.c (.int .u8 123))⟩,
  ⟨some 5,none,.mv false (.t 4)⟩,
  ⟨some 6,some (5,false),.mv false (.t 0)⟩,
  ⟨some 7,some (5,false),.bin .eql (.t 6) (.c (.int .u8 125))⟩,
  ⟨some 8,none,.pick (.t 5) (.c (.bool true)) (.t 7)⟩,
  ⟨some 9,none,.mv false (.t 8)⟩,
  ⟨some 10,some (9,false),.mv false (.t 0)⟩,
  ⟨some 11,some (9,false),.bin .eql (.t 10) (.c (.int .u8 59))⟩,
  ⟨some 12,none,.pick (.t 9) (.c (.bool true)) (.t 11)⟩,
  ⟨some 2,none,.mv false (.t 12)⟩]
def word_sign_f : LFunc := ⟨13,1,[.tmp 2],(.seq (.ops word_sign_r0) (.seq (.ops word_sign_r1) .ret))⟩
def word_sign_v : VFunc := ⟨word_sign_f,true,false,false⟩
theorem word_sign_ok : preFunc Try.prog ⟨[],[],[]⟩ Try.f26 [] = some word_sign_f := by kernel_rfl

-- gantry/word.IsName
def word_IsName_r0 : List LOper := [
  ⟨some 2,none,.mv false (.c (.bool false))⟩]
def word_IsName_r1 : List LOper := [
  ⟨some 4,none,.mv false (.t 0)⟩,
  ⟨some 5,none,.lenS (.t 4)⟩,
  ⟨some 6,none,.bin .eql (.t 5) (.c (.int .i64 0))⟩,
  ⟨some 7,none,.mv false (.t 6)⟩,
  ⟨some 8,some (7,false),.mv false (.t 0)⟩,
  ⟨some 9,some (7,false),.lenS (.t 8)⟩,
  ⟨some 10,some (7,false),.bin .gtr (.t 9) (.c (.int .i64 12))⟩,
  ⟨some 11,none,.pick (.t 7) (.c (.bool true)) (.t 10)⟩]
def word_IsName_r2 : List LOper := [
  ⟨some 2,none,.mv false (.c (.bool false))⟩]
def word_IsName_r3 : List LOper := [
  ⟨some 12,none,.mv false (.t 0)⟩,
  ⟨some 13,none,.lenS (.t 12)⟩,
  ⟨some 14,none,.mv false (.c (.int .i64 0))⟩]
def word_IsName_r4 : List LOper := [
  ⟨some 15,none,.bin .lss (.t 14) (.t 13)⟩]
def word_IsName_r5 : List LOper := [
  ⟨some 16,none,.mv false (.t 14)⟩,
  ⟨some 3,none,.mv false (.t 16)⟩]
def word_IsName_r6 : List LOper := [
  ⟨some 17,none,.mv false (.t 0)⟩,
  ⟨some 18,none,.mv false (.t 3)⟩,
  ⟨some 19,none,.index (.t 17) (.t 18)⟩,
  ⟨some 20,none,.call false 23 [(.t 19)]⟩,
  ⟨some 21,none,.un .not (.t 20)⟩]
def word_IsName_r7 : List LOper := [
  ⟨some 2,none,.mv false (.c (.bool false))⟩]
def word_IsName_r8 : List LOper := [
  ⟨some 22,none,.bin .add (.t 14) (.c (.int .i64 1))⟩,
  ⟨some 14,none,.mv false (.t 22)⟩]
def word_IsName_b0 : LCode := (.seq (.ops word_IsName_r4) (.seq (.cond (.t 15) .skip (.exit 0)) (.seq (.block 1 (.seq (.ops word_IsName_r5) (.seq (.ops word_IsName_r6) (.cond (.t 21) (.seq (.ops word_IsName_r7) .ret) .skip)))) (.ops word_IsName_r8))))
def word_IsName_r9 : List LOper := [
  ⟨some 2,none,.mv false (.c (.bool true))⟩]
def word_IsName_f : LFunc := ⟨23,1,[.tmp 2],(.seq (.ops word_IsName_r0) (.seq (.seq (.ops word_IsName_r1) (.cond (.t 11) (.seq (.ops word_IsName_r2) .ret) .skip)) (.seq (.seq (.ops word_IsName_r3) (.block 0 (.loop [0,13,14] word_IsName_b0))) (.seq (.ops word_IsName_r9) .ret))))⟩
def word_IsName_v : VFunc := ⟨word_IsName_f,true,false,false⟩
theorem word_IsName_ok : preFunc Try.prog ⟨[],[],[]⟩ Try.f27 [[0,13,14]] = some word_IsName_f := by kernel_rfl

-- gantry/word.IsNumber
def word_IsNumber_r0 : List LOper := [
  ⟨some 2,none,.mv false (.c (.bool false))⟩]
def word_IsNumber_r1 : List LOper := [
  ⟨some 7,none,.mv false (.t 0)⟩,
  ⟨some 8,none,.call false 34 [(.t 7),(.c (.str [47]))]⟩,
  ⟨some 6,none,.mv false (.t 8)⟩,
  ⟨some 9,none,.extract 0 (.t 6)⟩,
  ⟨some 10,none,.extract 1 (.t 6)⟩,
  ⟨some 11,none,.extract 2 (.t 6)⟩,
  ⟨some 3,none,.mv false (.t 9)⟩,
  ⟨some 4,none,.mv false (.t 10)⟩,
  ⟨some 5,none,.mv false (.t 11)⟩]
def word_IsNumber_r2 : List LOper := [
  ⟨some 12,none,.mv false (.t 3)⟩,
  ⟨some 13,none,.call false 35 [(.t 12)]⟩,
  ⟨some 14,none,.mv false (.t 13)⟩,
  ⟨some 15,some (14,true),.mv false (.t 5)⟩,
  ⟨some 16,some (14,true),.un .not (.t 15)⟩,
  ⟨some 17,some (14,true),.mv false (.t 16)⟩,
  ⟨some 18,some (17,false),.mv false (.t 4)⟩,
  ⟨some 19,some (17,false),.call false 35 [(.t 18)]⟩,
  ⟨some 20,some (14,true),.pick (.t 17) (.c (.bool true)) (.t 19)⟩,
  ⟨some 21,none,.pick (.t 14) (.t 20) (.c (.bool false))⟩,
  ⟨some 2,none,.mv false (.t 21)⟩]
def word_IsNumber_f : LFunc := ⟨22,1,[.tmp 2],(.seq (.ops word_IsNumber_r0) (.seq (.ops word_IsNumber_r1) (.seq (.ops word_IsNumber_r2) .ret)))⟩
def word_IsNumber_v : VFunc := ⟨word_IsNumber_f,true,false,false⟩
theorem word_IsNumber_ok : preFunc Try.prog ⟨[],[],[]⟩ Try.f28 [] = some word_IsNumber_f := by kernel_rfl

-- strings.Cut
def strings_Cut_r0 : List LOper := [
  ⟨some 4,none,.mv false (.c (.str []))⟩,
  ⟨some 5,none,.mv false (.c (.str []))⟩,
  ⟨some 6,none,.mv false (.c (.bool false))⟩]
def strings_Cut_r1 : List LOper := [
  ⟨some 7,none,.mv false (.t 0)⟩,
  ⟨some 8,none,.mv false (.t 1)⟩,
  ⟨some 9,none,.call false 38 [(.t 7),(.t 8)]⟩,
  ⟨some 10,none,.extract 0 (.t 9)⟩,
  ⟨some 11,none,.extract 1 (.t 9)⟩,
  ⟨some 12,none,.extract 2 (.t 9)⟩,
  ⟨some 4,none,.mv false (.t 10)⟩,
  ⟨some 5,none,.mv false (.t 11)⟩,
  ⟨some 6,none,.mv false (.t 12)⟩]
def strings_Cut_f : LFunc := ⟨13,2,[.tmp 4,.tmp 5,.tmp 6],(.seq (.ops strings_Cut_r0) (.seq (.ops strings_Cut_r1) .ret))⟩
def strings_Cut_v : VFunc := ⟨strings_Cut_f,true,false,false⟩
theorem strings_Cut_ok : preFunc Try.prog ⟨[],[],[]⟩ Try.f34 [] = some strings_Cut_f := by kernel_rfl

-- gantry/word.digits
def word_digits_r0 : List LOper := [
  ⟨some 2,none,.mv false (.c (.bool false))⟩]
def word_digits_r1 : List LOper := [
  ⟨some 4,none,.mv false (.t 0)⟩,
  ⟨some 5,none,.lenS (.t 4)⟩,
  ⟨some 6,none,.bin .eql (.t 5) (.c (.int .i64 0))⟩,
  ⟨some 7,none,.mv false (.t 6)⟩,
  ⟨some 8,some (7,false),.mv false (.t 0)⟩,
  ⟨some 9,some (7,false),.lenS (.t 8)⟩,
  ⟨some 10,some (7,false),.bin .gtr (.t 9) (.c (.int .i64 9))⟩,
  ⟨some 11,none,.pick (.t 7) (.c (.bool true)) (.t 10)⟩]
def word_digits_r2 : List LOper := [
  ⟨some 2,none,.mv false (.c (.bool false))⟩]
def word_digits_r3 : List LOper := [
  ⟨some 12,none,.mv false (.t 0)⟩,
  ⟨some 13,none,.lenS (.t 12)⟩,
  ⟨some 14,none,.mv false (.c (.int .i64 0))⟩]
def word_digits_r4 : List LOper := [
  ⟨some 15,none,.bin .lss (.t 14) (.t 13)⟩]
def word_digits_r5 : List LOper := [
  ⟨some 16,none,.mv false (.t 14)⟩,
  ⟨some 3,none,.mv false (.t 16)⟩]
def word_digits_r6 : List LOper := [
  ⟨some 17,none,.mv false (.t 0)⟩,
  ⟨some 18,none,.mv false (.t 3)⟩,
  ⟨some 19,none,.index (.t 17) (.t 18)⟩,
  ⟨some 20,none,.call false 25 [(.t 19)]⟩,
  ⟨some 21,none,.un .not (.t 20)⟩]
def word_digits_r7 : List LOper := [
  ⟨some 2,none,.mv false (.c (.bool false))⟩]
def word_digits_r8 : List LOper := [
  ⟨some 22,none,.bin .add (.t 14) (.c (.int .i64 1))⟩,
  ⟨some 14,none,.mv false (.t 22)⟩]
def word_digits_b0 : LCode := (.seq (.ops word_digits_r4) (.seq (.cond (.t 15) .skip (.exit 0)) (.seq (.block 1 (.seq (.ops word_digits_r5) (.seq (.ops word_digits_r6) (.cond (.t 21) (.seq (.ops word_digits_r7) .ret) .skip)))) (.ops word_digits_r8))))
def word_digits_r9 : List LOper := [
  ⟨some 2,none,.mv false (.c (.bool true))⟩]
def word_digits_f : LFunc := ⟨23,1,[.tmp 2],(.seq (.ops word_digits_r0) (.seq (.seq (.ops word_digits_r1) (.cond (.t 11) (.seq (.ops word_digits_r2) .ret) .skip)) (.seq (.seq (.ops word_digits_r3) (.block 0 (.loop [0,13,14] word_digits_b0))) (.seq (.ops word_digits_r9) .ret))))⟩
def word_digits_v : VFunc := ⟨word_digits_f,true,false,false⟩
theorem word_digits_ok : preFunc Try.prog ⟨[],[],[]⟩ Try.f35 [[0,13,14]] = some word_digits_f := by kernel_rfl

-- internal/stringslite.Cut
def stringslite_Cut_r0 : List LOper := [
  ⟨some 4,none,.mv false (.c (.str []))⟩,
  ⟨some 5,none,.mv false (.c (.str []))⟩,
  ⟨some 6,none,.mv false (.c (.bool false))⟩]
def stringslite_Cut_r1 : List LOper := [
  ⟨some 8,none,.mv false (.t 0)⟩,
  ⟨some 9,none,.mv false (.t 1)⟩,
  ⟨some 10,none,.call false 36 [(.t 8),(.t 9)]⟩,
  ⟨some 7,none,.mv false (.t 10)⟩]
def stringslite_Cut_r2 : List LOper := [
  ⟨some 11,none,.mv false (.t 7)⟩,
  ⟨some 12,none,.bin .geq (.t 11) (.c (.int .i64 0))⟩]
def stringslite_Cut_r3 : List LOper := [
  ⟨some 13,none,.mv false (.t 0)⟩,
  ⟨some 14,none,.mv false (.t 7)⟩,
  ⟨some 15,none,.slc 0 (.t 13) none (some (.t 14)) none⟩,
  ⟨some 16,none,.mv false (.t 0)⟩,
  ⟨some 17,none,.mv false (.t 7)⟩,
  ⟨some 18,none,.mv false (.t 1)⟩,
  ⟨some 19,none,.lenS (.t 18)⟩,
  ⟨some 20,none,.bin .add (.t 17) (.t 19)⟩,
  ⟨some 21,none,.slc 0 (.t 16) (some (.t 20)) none none⟩,
  ⟨some 4,none,.mv false (.t 15)⟩,
  ⟨some 5,none,.mv false (.t 21)⟩,
  ⟨some 6,none,.mv false (.c (.bool true))⟩]
theorem stringslite_Cut_r3_d : drawC [0,0,3,0,0,0,32,112,248,7,1023,2047] [
  ⟨some 13,none,.mv false (.t 0)⟩,
  ⟨some 14,none,.mv false (.t 7)⟩,
  ⟨some 15,none,.slc 0 (.t 13) none (some (.t 14)) none⟩,
  ⟨some 16,none,.mv false (.t 0)⟩,
  ⟨some 17,none,.mv false (.t 7)⟩,
  ⟨some 18,none,.mv false (.t 1)⟩,
  ⟨some 19,none,.lenS (.t 18)⟩,
  ⟨some 20,none,.bin .add (.t 17) (.t 19)⟩,
  ⟨some 21,none,.slc 0 (.t 16) (some (.t 20)) none none⟩,
  ⟨some 4,none,.mv false (.t 15)⟩,
  ⟨some 5,none,.mv false (.t 21)⟩,
  ⟨some 6,none,.mv false (.c (.bool true))⟩] = true := by kernel_rfl
def stringslite_Cut_r4 : List LOper := [
  ⟨some 22,none,.mv false (.t 0)⟩,
  ⟨some 4,none,.mv false (.t 22)⟩,
  ⟨some 5,none,.mv false (.c (.str []))⟩,
  ⟨some 6,none,.mv false (.c (.bool false))⟩]
def stringslite_Cut_f : LFunc := ⟨23,2,[.tmp 4,.tmp 5,.tmp 6],(.seq (.ops stringslite_Cut_r0) (.seq (.seq (.ops stringslite_Cut_r1) (.seq (.ops stringslite_Cut_r2) (.cond (.t 12) (.seq (.dops [0,0,3,0,0,0,32,112,248,7,1023,2047] stringslite_Cut_r3) .ret) .skip))) (.seq (.ops stringslite_Cut_r4) .ret)))⟩
def stringslite_Cut_v : VFunc := ⟨stringslite_Cut_f,true,false,false⟩
theorem stringslite_Cut_ok : preFunc Try.prog ⟨[],[],[]⟩ Try.f38 [] = some stringslite_Cut_f := by kernel_rfl

-- internal/stringslite.IndexByte
def stringslite_IndexByte_r0 : List LOper := [
  ⟨some 4,none,.mv false (.c (.int .i64 0))⟩]
def stringslite_IndexByte_r1 : List LOper := [
  ⟨some 5,none,.mv false (.t 0)⟩,
  ⟨some 6,none,.mv false (.t 1)⟩,
  ⟨some 7,none,.stuck⟩,
  ⟨some 4,none,.mv false (.t 7)⟩]
def stringslite_IndexByte_f : LFunc := ⟨8,2,[.tmp 4],(.seq (.ops stringslite_IndexByte_r0) (.seq (.ops stringslite_IndexByte_r1) .ret))⟩
def stringslite_IndexByte_v : VFunc := ⟨stringslite_IndexByte_f,true,false,false⟩
theorem stringslite_IndexByte_ok : preFunc Try.prog ⟨[],[],[]⟩ Try.f39 [] = some stringslite_IndexByte_f := by kernel_rfl

-- internal/stringslite.Index
def stringslite_Index_f : LFunc := ext2 .index1
def stringslite_Index_v : VFunc := ⟨stringslite_Index_f,true,false,false⟩

-- strings.Count
def strings_Count_f : LFunc := ext2 .count1
def strings_Count_v : VFunc := ⟨strings_Count_f,true,false,false⟩

-- strings.Join
def strings_Join_f : LFunc := ext2 .join
def strings_Join_v : VFunc := ⟨strings_Join_f,true,false,false⟩

abbrev n_gantkeep4_WordPlaces : Nat := 3
abbrev n_gantkeep4_WordBlanks : Nat := 4
abbrev n_gantkeep4_WordBack : Nat := 5
abbrev n_word_Read : Nat := 6
abbrev n_gantkeep4_worded : Nat := 7
abbrev n_word_Line : Nat := 8
abbrev n_gantmake_Below : Nat := 10
abbrev n_slices_Equal_gantrywordWord : Nat := 12
abbrev n_gantkeep4_texts : Nat := 13
abbrev n_word_Text : Nat := 14
abbrev n_word_skip : Nat := 15
abbrev n_word_one : Nat := 16
abbrev n_slices_Clone_gantrywordWord : Nat := 19
abbrev n_word_Valid : Nat := 20
abbrev n_word_blank : Nat := 22
abbrev n_word_letter : Nat := 23
abbrev n_word_run : Nat := 24
abbrev n_word_digit : Nat := 25
abbrev n_word_sign : Nat := 26
abbrev n_word_IsName : Nat := 27
abbrev n_word_IsNumber : Nat := 28
abbrev n_strings_Cut : Nat := 34
abbrev n_word_digits : Nat := 35
abbrev n_stringslite_Cut : Nat := 38
abbrev n_stringslite_IndexByte : Nat := 39
abbrev n_stringslite_Index : Nat := 36
abbrev n_strings_Count : Nat := 17
abbrev n_strings_Join : Nat := 21
def vp : VProg
  | 3 => some gantkeep4_WordPlaces_v
  | 4 => some gantkeep4_WordBlanks_v
  | 5 => some gantkeep4_WordBack_v
  | 6 => some word_Read_v
  | 7 => some gantkeep4_worded_v
  | 8 => some word_Line_v
  | 10 => some gantmake_Below_v
  | 12 => some slices_Equal_gantrywordWord_v
  | 13 => some gantkeep4_texts_v
  | 14 => some word_Text_v
  | 15 => some word_skip_v
  | 16 => some word_one_v
  | 19 => some slices_Clone_gantrywordWord_v
  | 20 => some word_Valid_v
  | 22 => some word_blank_v
  | 23 => some word_letter_v
  | 24 => some word_run_v
  | 25 => some word_digit_v
  | 26 => some word_sign_v
  | 27 => some word_IsName_v
  | 28 => some word_IsNumber_v
  | 34 => some strings_Cut_v
  | 35 => some word_digits_v
  | 38 => some stringslite_Cut_v
  | 39 => some stringslite_IndexByte_v
  | 36 => some stringslite_Index_v
  | 17 => some strings_Count_v
  | 21 => some strings_Join_v
  | _ => none
def lp : LProg := fun f => if f = 19 then some slices_Clone_gantrywordWord_f else (vp f).map (·.fn)
theorem lp_ok : PSound false Try.prog lp := by
  intro f lf h
  unfold lp at h
  split at h
  · rename_i e; subst e; cases h; exact .inl ⟨_,_,_,Try.func19,slices_Clone_gantrywordWord_ok⟩
  unfold vp at h
  split at h
  · cases h; exact .inl ⟨_,_,_,Try.func3,gantkeep4_WordPlaces_ok⟩
  · cases h; exact .inl ⟨_,_,_,Try.func4,gantkeep4_WordBlanks_ok⟩
  · cases h; exact .inl ⟨_,_,_,Try.func5,gantkeep4_WordBack_ok⟩
  · cases h; exact .inl ⟨_,_,_,Try.func6,word_Read_ok⟩
  · cases h; exact .inl ⟨_,_,_,Try.func7,gantkeep4_worded_ok⟩
  · cases h; exact .inl ⟨_,_,_,Try.func8,word_Line_ok⟩
  · cases h; exact .inl ⟨_,_,_,Try.func10,gantmake_Below_ok⟩
  · cases h; exact .inl ⟨_,_,_,Try.func12,slices_Equal_gantrywordWord_ok⟩
  · cases h; exact .inl ⟨_,_,_,Try.func13,gantkeep4_texts_ok⟩
  · cases h; exact .inl ⟨_,_,_,Try.func14,word_Text_ok⟩
  · cases h; exact .inl ⟨_,_,_,Try.func15,word_skip_ok⟩
  · cases h; exact .inl ⟨_,_,_,Try.func16,word_one_ok⟩
  · exact absurd rfl (by assumption)
  · cases h; exact .inl ⟨_,_,_,Try.func20,word_Valid_ok⟩
  · cases h; exact .inl ⟨_,_,_,Try.func22,word_blank_ok⟩
  · cases h; exact .inl ⟨_,_,_,Try.func23,word_letter_ok⟩
  · cases h; exact .inl ⟨_,_,_,Try.func24,word_run_ok⟩
  · cases h; exact .inl ⟨_,_,_,Try.func25,word_digit_ok⟩
  · cases h; exact .inl ⟨_,_,_,Try.func26,word_sign_ok⟩
  · cases h; exact .inl ⟨_,_,_,Try.func27,word_IsName_ok⟩
  · cases h; exact .inl ⟨_,_,_,Try.func28,word_IsNumber_ok⟩
  · cases h; exact .inl ⟨_,_,_,Try.func34,strings_Cut_ok⟩
  · cases h; exact .inl ⟨_,_,_,Try.func35,word_digits_ok⟩
  · cases h; exact .inl ⟨_,_,_,Try.func38,stringslite_Cut_ok⟩
  · cases h; exact .inl ⟨_,_,_,Try.func39,stringslite_IndexByte_ok⟩
  · cases h; exact .inr stringslite_Index_ext
  · cases h; exact .inr strings_Count_ext
  · cases h; exact .inr strings_Join_ext
  · cases h
theorem vp_link (f : FuncId) : Link (lp f) (vp f) := by
  unfold lp
  split
  · rename_i e; subst e; exact .cloneM false false 3 32
  exact .of_eq rfl
theorem law {f : FuncId} {args : List VV} {h1 : VHeap} (hE : callVL vp 0 f args [] = some (.bool true,h1)) {w : World} {ρ : List Lg.Place} {lh : Heap} (R : Rep (m := false) ⟨w⟩ ρ lh w) {vs : Array Value} {largs : List LV} (hv : VRs ρ vs.toList largs) (hr : RVs (fun _ => none) [] lh args largs) :
    Calls Try.prog f vs w fun e w' => e = .returned (.bool true) ∧ Below w.heap.size w w' := law_true lp_ok vp_link hE R hv hr
end Vg.G2
