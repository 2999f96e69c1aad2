import Derived.Test.YtpikplkdlbnffaaGreatDoorVEE
import Derived.Test.YtpikplkdlbnffaaGreatDoorVVgLib
import Derived.Test.YtpikplkdlbnffaaGreatDoorProg
import Derived.KernelRfl
namespace Vg.G3
open Go Lg Go.RowKit
open Go.Proofs
-- gantry/gantkeep4.ParseBack
def gantkeep4_ParseBack_r0 : List LOper := [
  ⟨some 4,none,.mv false (.c (.bool false))⟩]
def gantkeep4_ParseBack_r1 : List LOper := [
  ⟨some 10,none,.mv false (.t 0)⟩,
  ⟨some 11,none,.call false 10 [(.t 10)]⟩,
  ⟨some 12,none,.mv false (.t 1)⟩,
  ⟨some 13,none,.call false 9 [(.t 11),(.t 12)]⟩,
  ⟨some 5,none,.alloc [.str [],.nilslice]⟩,
  ⟨none,none,.store 2 (.t 5) (.t 13)⟩]
def gantkeep4_ParseBack_r2 : List LOper := [
  ⟨some 15,none,.load false true 2 (.t 5)⟩,
  ⟨some 16,none,.call false 7 [(.t 15)]⟩,
  ⟨some 14,none,.mv false (.t 16)⟩,
  ⟨some 17,none,.extract 0 (.t 14)⟩,
  ⟨some 18,none,.extract 1 (.t 14)⟩,
  ⟨some 6,none,.mv false (.t 17)⟩,
  ⟨some 7,none,.mv false (.t 18)⟩]
def gantkeep4_ParseBack_r3 : List LOper := [
  ⟨some 20,none,.mv false (.t 6)⟩,
  ⟨some 21,none,.call false 5 [(.t 20)]⟩,
  ⟨some 19,none,.mv false (.t 21)⟩,
  ⟨some 22,none,.extract 0 (.t 19)⟩,
  ⟨some 23,none,.extract 1 (.t 19)⟩,
  ⟨some 8,none,.alloc [.str [],.nilslice]⟩,
  ⟨none,none,.store 2 (.t 8) (.t 22)⟩,
  ⟨some 9,none,.mv false (.t 23)⟩]
def gantkeep4_ParseBack_r4 : List LOper := [
  ⟨some 24,none,.call false 6 []⟩,
  ⟨some 25,none,.mv false (.t 24)⟩,
  ⟨some 26,some (25,true),.mv false (.t 7)⟩,
  ⟨some 27,some (25,true),.bin .eql (.t 26) (.c (.int .i64 0))⟩,
  ⟨some 28,none,.pick (.t 25) (.t 27) (.c (.bool false))⟩,
  ⟨some 29,none,.mv false (.t 28)⟩,
  ⟨some 30,some (29,true),.mv false (.t 9)⟩,
  ⟨some 31,some (29,true),.bin .eql (.t 30) (.c (.int .i64 0))⟩,
  ⟨some 32,none,.pick (.t 29) (.t 31) (.c (.bool false))⟩,
  ⟨some 33,none,.mv false (.t 32)⟩,
  ⟨some 34,some (33,true),.load false true 2 (.t 5)⟩,
  ⟨some 35,some (33,true),.load false true 2 (.t 8)⟩,
  ⟨some 36,some (33,true),.call false 8 [(.t 34),(.t 35)]⟩,
  ⟨some 37,none,.pick (.t 33) (.t 36) (.c (.bool false))⟩,
  ⟨some 4,none,.mv false (.t 37)⟩]
def gantkeep4_ParseBack_f : LFunc := ⟨38,2,[.tmp 4],(.seq (.ops gantkeep4_ParseBack_r0) (.seq (.ops gantkeep4_ParseBack_r1) (.seq (.ops gantkeep4_ParseBack_r2) (.seq (.ops gantkeep4_ParseBack_r3) (.seq (.ops gantkeep4_ParseBack_r4) .ret)))))⟩
def gantkeep4_ParseBack_v : VFunc := ⟨gantkeep4_ParseBack_f,true,false,false⟩
theorem gantkeep4_ParseBack_ok : preFunc Tryz.prog ⟨[],[],[]⟩ Tryz.f4 [] = some gantkeep4_ParseBack_f := by kernel_rfl

-- gantry/parse.Read
def parse_Read_r0 : List LOper := [
  ⟨some 2,none,.alloc [.str [],.nilslice]⟩,
  ⟨some 3,none,.mv false (.c (.int .i64 0))⟩]
def parse_Read_r1 : List LOper := [
  ⟨some 10,none,.mv false (.t 0)⟩,
  ⟨some 11,none,.call false 11 [(.t 10)]⟩,
  ⟨some 9,none,.mv false (.t 11)⟩,
  ⟨some 12,none,.extract 0 (.t 9)⟩,
  ⟨some 13,none,.extract 1 (.t 9)⟩,
  ⟨some 4,none,.mv false (.t 12)⟩,
  ⟨some 5,none,.mv false (.t 13)⟩]
def parse_Read_r2 : List LOper := [
  ⟨some 14,none,.mv false (.t 5)⟩,
  ⟨some 15,none,.bin .neq (.t 14) (.c (.int .i64 0))⟩]
def parse_Read_r3 : List LOper := [
  ⟨some 16,none,.build [.str [],.nilslice] []⟩,
  ⟨some 17,none,.mv false (.t 5)⟩,
  ⟨none,none,.store 2 (.t 2) (.t 16)⟩,
  ⟨some 3,none,.mv false (.t 17)⟩]
def parse_Read_r4 : List LOper := [
  ⟨some 18,none,.mv false (.t 4)⟩,
  ⟨some 19,none,.build [.nilslice,.int .i64 0] [(0,1,(.t 18)),(1,1,(.c (.int .i64 100)))]⟩,
  ⟨some 20,none,.box (.t 19)⟩,
  ⟨some 6,none,.mv false (.t 20)⟩]
def parse_Read_r5 : List LOper := [
  ⟨some 7,none,.alloc [.str [],.nilslice]⟩]
def parse_Read_r6 : List LOper := [
  ⟨some 21,none,.mv false (.t 6)⟩,
  ⟨some 22,none,.call false 12 [(.t 21),(.c (.str [106,111,98]))]⟩,
  ⟨some 23,none,.un .not (.t 22)⟩]
def parse_Read_r7 : List LOper := [
  ⟨some 24,none,.build [.str [],.nilslice] []⟩,
  ⟨none,none,.store 2 (.t 2) (.t 24)⟩,
  ⟨some 3,none,.mv false (.c (.int .i64 15))⟩]
def parse_Read_r8 : List LOper := [
  ⟨some 8,none,.mv false (.c (.bool false))⟩]
def parse_Read_r9 : List LOper := [
  ⟨some 26,none,.mv false (.t 6)⟩,
  ⟨some 27,none,.call false 13 [(.t 26)]⟩,
  ⟨some 25,none,.mv false (.t 27)⟩,
  ⟨some 28,none,.extract 0 (.t 25)⟩,
  ⟨some 29,none,.extract 1 (.t 25)⟩,
  ⟨some 30,none,.fieldAddr 0 (.t 7)⟩,
  ⟨none,none,.store 1 (.t 30) (.t 28)⟩,
  ⟨some 8,none,.mv false (.t 29)⟩]
def parse_Read_r10 : List LOper := [
  ⟨some 31,none,.mv false (.t 8)⟩,
  ⟨some 32,none,.un .not (.t 31)⟩]
def parse_Read_r11 : List LOper := [
  ⟨some 33,none,.build [.str [],.nilslice] []⟩,
  ⟨none,none,.store 2 (.t 2) (.t 33)⟩,
  ⟨some 3,none,.mv false (.c (.int .i64 15))⟩]
def parse_Read_r12 : List LOper := [
  ⟨some 35,none,.mv false (.t 6)⟩,
  ⟨some 36,none,.call false 14 [(.t 35),(.c (.int .i64 1))]⟩,
  ⟨some 34,none,.mv false (.t 36)⟩,
  ⟨some 37,none,.extract 0 (.t 34)⟩,
  ⟨some 38,none,.extract 1 (.t 34)⟩,
  ⟨some 39,none,.fieldAddr 1 (.t 7)⟩,
  ⟨none,none,.store 1 (.t 39) (.t 37)⟩,
  ⟨some 5,none,.mv false (.t 38)⟩]
def parse_Read_r13 : List LOper := [
  ⟨some 40,none,.mv false (.t 5)⟩,
  ⟨some 41,none,.bin .neq (.t 40) (.c (.int .i64 0))⟩]
def parse_Read_r14 : List LOper := [
  ⟨some 42,none,.build [.str [],.nilslice] []⟩,
  ⟨some 43,none,.mv false (.t 5)⟩,
  ⟨none,none,.store 2 (.t 2) (.t 42)⟩,
  ⟨some 3,none,.mv false (.t 43)⟩]
def parse_Read_r15 : List LOper := [
  ⟨some 44,none,.mv false (.t 6)⟩,
  ⟨some 45,none,.nilchk (.t 44)⟩,
  ⟨some 46,none,.fieldAddr 0 (.t 45)⟩,
  ⟨some 47,none,.load false false 1 (.t 46)⟩,
  ⟨some 48,none,.lenL (.t 47)⟩,
  ⟨some 49,none,.bin .gtr (.t 48) (.c (.int .i64 0))⟩]
def parse_Read_r16 : List LOper := [
  ⟨some 50,none,.build [.str [],.nilslice] []⟩,
  ⟨none,none,.store 2 (.t 2) (.t 50)⟩,
  ⟨some 3,none,.mv false (.c (.int .i64 15))⟩]
def parse_Read_r17 : List LOper := [
  ⟨some 51,none,.load false true 2 (.t 7)⟩,
  ⟨some 52,none,.call false 15 [(.t 51)]⟩,
  ⟨some 5,none,.mv false (.t 52)⟩]
def parse_Read_r18 : List LOper := [
  ⟨some 53,none,.mv false (.t 5)⟩,
  ⟨some 54,none,.bin .neq (.t 53) (.c (.int .i64 0))⟩]
def parse_Read_r19 : List LOper := [
  ⟨some 55,none,.build [.str [],.nilslice] []⟩,
  ⟨some 56,none,.mv false (.t 5)⟩,
  ⟨none,none,.store 2 (.t 2) (.t 55)⟩,
  ⟨some 3,none,.mv false (.t 56)⟩]
def parse_Read_r20 : List LOper := [
  ⟨some 57,none,.load false true 2 (.t 7)⟩,
  ⟨none,none,.store 2 (.t 2) (.t 57)⟩,
  ⟨some 3,none,.mv false (.c (.int .i64 0))⟩]
def parse_Read_f : LFunc := ⟨58,1,[.cell 2 true 2,.tmp 3],(.seq (.ops parse_Read_r0) (.seq (.ops parse_Read_r1) (.seq (.seq (.ops parse_Read_r2) (.cond (.t 15) (.seq (.ops parse_Read_r3) .ret) .skip)) (.seq (.ops parse_Read_r4) (.seq (.ops parse_Read_r5) (.seq (.seq (.ops parse_Read_r6) (.cond (.t 23) (.seq (.ops parse_Read_r7) .ret) .skip)) (.seq (.ops parse_Read_r8) (.seq (.seq (.ops parse_Read_r9) (.seq (.ops parse_Read_r10) (.cond (.t 32) (.seq (.ops parse_Read_r11) .ret) .skip))) (.seq (.seq (.ops parse_Read_r12) (.seq (.ops parse_Read_r13) (.cond (.t 41) (.seq (.ops parse_Read_r14) .ret) .skip))) (.seq (.seq (.ops parse_Read_r15) (.cond (.t 49) (.seq (.ops parse_Read_r16) .ret) .skip)) (.seq (.seq (.ops parse_Read_r17) (.seq (.ops parse_Read_r18) (.cond (.t 54) (.seq (.ops parse_Read_r19) .ret) .skip))) (.seq (.ops parse_Read_r20) .ret))))))))))))⟩
def parse_Read_v : VFunc := ⟨parse_Read_f,true,false,false⟩
theorem parse_Read_ok : preFunc Tryz.prog ⟨[],[],[]⟩ Tryz.f5 [] = some parse_Read_f := by kernel_rfl

-- gantry/gantkeep4.parsed
def gantkeep4_parsed_r0 : List LOper := [
  ⟨some 0,none,.mv false (.c (.bool false))⟩]
def gantkeep4_parsed_r1 : List LOper := [
  ⟨some 4,none,.build [.int .i64 0,.str [],.str [],.bool false,.str [],.str [],.int .i64 0,.nilslice] [(0,1,(.c (.int .i64 5))),(6,1,(.c (.int .i64 3)))]⟩,
  ⟨some 5,none,.bslice false 1 8 [.int .i64 0,.str [],.str [],.bool false,.str [],.str [],.int .i64 0,.nilslice] [(0,8,(.t 4))]⟩,
  ⟨some 6,none,.build [.str [],.nilslice] [(0,1,(.c (.str [120]))),(1,1,(.t 5))]⟩,
  ⟨some 7,none,.call false 7 [(.t 6)]⟩,
  ⟨some 3,none,.mv false (.t 7)⟩,
  ⟨some 8,none,.extract 0 (.t 3)⟩,
  ⟨some 9,none,.extract 1 (.t 3)⟩,
  ⟨some 1,none,.mv false (.t 8)⟩,
  ⟨some 2,none,.mv false (.t 9)⟩]
def gantkeep4_parsed_r2 : List LOper := [
  ⟨some 10,none,.mv false (.t 2)⟩,
  ⟨some 11,none,.bin .eql (.t 10) (.c (.int .i64 0))⟩,
  ⟨some 12,none,.mv false (.t 11)⟩,
  ⟨some 13,some (12,true),.mv false (.t 1)⟩,
  ⟨some 14,some (12,true),.bin .eql (.t 13) (.c (.str [106,111,98,32,120,32,123,32,119,97,105,116,32,51,32,59,32,125]))⟩,
  ⟨some 15,none,.pick (.t 12) (.t 14) (.c (.bool false))⟩,
  ⟨some 0,none,.mv false (.t 15)⟩]
def gantkeep4_parsed_f : LFunc := ⟨16,0,[.tmp 0],(.seq (.ops gantkeep4_parsed_r0) (.seq (.ops gantkeep4_parsed_r1) (.seq (.ops gantkeep4_parsed_r2) .ret)))⟩
def gantkeep4_parsed_v : VFunc := ⟨gantkeep4_parsed_f,true,false,false⟩
theorem gantkeep4_parsed_ok : preFunc Tryz.prog ⟨[],[],[]⟩ Tryz.f6 [] = some gantkeep4_parsed_f := by kernel_rfl

-- gantry/parse.Print
def parse_Print_r0 : List LOper := [
  ⟨some 1,none,.box (.t 0)⟩,
  ⟨some 2,none,.mv false (.c (.str []))⟩,
  ⟨some 3,none,.mv false (.c (.int .i64 0))⟩]
def parse_Print_r1 : List LOper := [
  ⟨some 7,none,.load false true 2 (.t 1)⟩,
  ⟨some 8,none,.call false 15 [(.t 7)]⟩,
  ⟨some 4,none,.mv false (.t 8)⟩]
def parse_Print_r2 : List LOper := [
  ⟨some 9,none,.mv false (.t 4)⟩,
  ⟨some 10,none,.bin .neq (.t 9) (.c (.int .i64 0))⟩]
def parse_Print_r3 : List LOper := [
  ⟨some 11,none,.mv false (.t 4)⟩,
  ⟨some 2,none,.mv false (.c (.str []))⟩,
  ⟨some 3,none,.mv false (.t 11)⟩]
def parse_Print_r4 : List LOper := [
  ⟨some 12,none,.build [.nilslice] []⟩,
  ⟨some 13,none,.box (.t 12)⟩,
  ⟨some 5,none,.mv false (.t 13)⟩]
def parse_Print_r5 : List LOper := [
  ⟨some 14,none,.mv false (.t 5)⟩,
  ⟨some 15,none,.fieldAddr 0 (.t 1)⟩,
  ⟨some 16,none,.load false false 1 (.t 15)⟩,
  ⟨some 17,none,.bslice false 2 1 [.str [],.str []] [(0,1,(.c (.str [106,111,98]))),(1,1,(.t 16))]⟩,
  ⟨some 18,none,.call false 16 [(.t 14),(.t 17)]⟩]
def parse_Print_r6 : List LOper := [
  ⟨some 19,none,.mv false (.t 5)⟩,
  ⟨some 20,none,.fieldAddr 1 (.t 1)⟩,
  ⟨some 21,none,.load false false 1 (.t 20)⟩,
  ⟨some 22,none,.call false 17 [(.t 19),(.t 21)]⟩]
def parse_Print_r7 : List LOper := [
  ⟨some 23,none,.mv false (.t 5)⟩,
  ⟨some 24,none,.nilchk (.t 23)⟩,
  ⟨some 25,none,.fieldAddr 0 (.t 24)⟩,
  ⟨some 26,none,.load false false 1 (.t 25)⟩,
  ⟨some 27,none,.call false 18 [(.t 26),(.c (.str [32]))]⟩,
  ⟨some 6,none,.mv false (.t 27)⟩]
def parse_Print_r8 : List LOper := [
  ⟨some 28,none,.mv false (.t 6)⟩,
  ⟨some 29,none,.lenS (.t 28)⟩,
  ⟨some 30,none,.bin .gtr (.t 29) (.c (.int .i64 4096))⟩]
def parse_Print_r9 : List LOper := [
  ⟨some 2,none,.mv false (.c (.str []))⟩,
  ⟨some 3,none,.mv false (.c (.int .i64 2))⟩]
def parse_Print_r10 : List LOper := [
  ⟨some 31,none,.mv false (.t 6)⟩,
  ⟨some 2,none,.mv false (.t 31)⟩,
  ⟨some 3,none,.mv false (.c (.int .i64 0))⟩]
def parse_Print_f : LFunc := ⟨32,1,[.tmp 2,.tmp 3],(.seq (.ops parse_Print_r0) (.seq (.seq (.ops parse_Print_r1) (.seq (.ops parse_Print_r2) (.cond (.t 10) (.seq (.ops parse_Print_r3) .ret) .skip))) (.seq (.ops parse_Print_r4) (.seq (.ops parse_Print_r5) (.seq (.ops parse_Print_r6) (.seq (.ops parse_Print_r7) (.seq (.seq (.ops parse_Print_r8) (.cond (.t 30) (.seq (.ops parse_Print_r9) .ret) .skip)) (.seq (.ops parse_Print_r10) .ret))))))))⟩
def parse_Print_v : VFunc := ⟨parse_Print_f,true,false,false⟩
theorem parse_Print_ok : preFunc Tryz.prog ⟨[],[],[]⟩ Tryz.f7 [] = some parse_Print_f := by kernel_rfl

-- gantry/parse.Same
def parse_Same_r0 : List LOper := [
  ⟨some 2,none,.box (.t 0)⟩,
  ⟨some 3,none,.box (.t 1)⟩,
  ⟨some 4,none,.mv false (.c (.bool false))⟩]
def parse_Same_r1 : List LOper := [
  ⟨some 5,none,.fieldAddr 0 (.t 2)⟩,
  ⟨some 6,none,.load false false 1 (.t 5)⟩,
  ⟨some 7,none,.fieldAddr 0 (.t 3)⟩,
  ⟨some 8,none,.load false false 1 (.t 7)⟩,
  ⟨some 9,none,.bin .eql (.t 6) (.t 8)⟩,
  ⟨some 10,none,.mv false (.t 9)⟩,
  ⟨some 11,some (10,true),.fieldAddr 1 (.t 2)⟩,
  ⟨some 12,some (10,true),.load false false 1 (.t 11)⟩,
  ⟨some 13,some (10,true),.fieldAddr 1 (.t 3)⟩,
  ⟨some 14,some (10,true),.load false false 1 (.t 13)⟩,
  ⟨some 15,some (10,true),.call false 19 [(.t 12),(.t 14)]⟩,
  ⟨some 16,none,.pick (.t 10) (.t 15) (.c (.bool false))⟩,
  ⟨some 4,none,.mv false (.t 16)⟩]
def parse_Same_f : LFunc := ⟨17,2,[.tmp 4],(.seq (.ops parse_Same_r0) (.seq (.ops parse_Same_r1) .ret))⟩
def parse_Same_v : VFunc := ⟨parse_Same_f,true,false,false⟩
theorem parse_Same_ok : preFunc Tryz.prog ⟨[],[],[]⟩ Tryz.f8 [] = some parse_Same_f := by kernel_rfl

-- gantry/gantkeep4.Job
def gantkeep4_Job_r0 : List LOper := [
  ⟨some 2,none,.box (.t 0)⟩,
  ⟨some 4,none,.alloc [.str [],.nilslice]⟩]
def gantkeep4_Job_r1 : List LOper := [
  ⟨some 5,none,.load false true 8 (.t 2)⟩,
  ⟨some 6,none,.mv false (.t 1)⟩,
  ⟨some 7,none,.build [.nilslice] [(0,1,(.t 6))]⟩,
  ⟨some 8,none,.box (.t 7)⟩,
  ⟨some 9,none,.call false 20 [(.t 5),(.t 8),(.c (.int .i64 1))]⟩,
  ⟨some 10,none,.build [.str [],.nilslice] [(0,1,(.c (.str [116,97,115,107]))),(1,1,(.t 9))]⟩,
  ⟨none,none,.store 2 (.t 4) (.t 10)⟩]
def gantkeep4_Job_f : LFunc := ⟨11,2,[.cell 4 true 2],(.seq (.ops gantkeep4_Job_r0) (.seq (.ops gantkeep4_Job_r1) .ret))⟩
def gantkeep4_Job_v : VFunc := ⟨gantkeep4_Job_f,true,false,false⟩
theorem gantkeep4_Job_ok : preFunc Tryz.prog ⟨[],[],[]⟩ Tryz.f9 [] = some gantkeep4_Job_f := by kernel_rfl

-- gantry/gantkeep4.Small
def gantkeep4_Small_r0 : List LOper := [
  ⟨some 2,none,.alloc [.nilslice,.nilslice,.nilslice,.nilslice,.nilslice,.bool false,.str [],.str []]⟩]
def gantkeep4_Small_r1 : List LOper := [
  ⟨some 8,none,.mv false (.t 0)⟩,
  ⟨some 9,none,.build [.nilslice] [(0,1,(.t 8))]⟩,
  ⟨some 10,none,.box (.t 9)⟩,
  ⟨some 3,none,.mv false (.t 10)⟩]
def gantkeep4_Small_r2 : List LOper := [
  ⟨some 4,none,.alloc [.nilslice,.nilslice,.nilslice,.nilslice,.nilslice,.bool false,.str [],.str []]⟩]
def gantkeep4_Small_r3 : List LOper := [
  ⟨some 11,none,.mv false (.t 3)⟩,
  ⟨some 12,none,.call false 21 [(.t 11),(.c (.int .i64 2))]⟩,
  ⟨some 13,none,.bin .add (.c (.int .i64 1)) (.t 12)⟩,
  ⟨some 14,none,.mv false (.c (.int .i64 0))⟩]
def gantkeep4_Small_r4 : List LOper := [
  ⟨some 15,none,.bin .lss (.t 14) (.t 13)⟩]
def gantkeep4_Small_r5 : List LOper := [
  ⟨some 16,none,.mv false (.t 14)⟩,
  ⟨some 5,none,.mv false (.t 16)⟩]
def gantkeep4_Small_r6 : List LOper := [
  ⟨some 17,none,.fieldAddr 0 (.t 4)⟩,
  ⟨some 18,none,.load true false 1 (.t 17)⟩,
  ⟨some 19,none,.bslice false 2 1 [.str [],.str []] [(0,1,(.c (.str [97,110,110]))),(1,1,(.c (.str [98,111,98])))]⟩,
  ⟨some 20,none,.mv false (.t 5)⟩,
  ⟨some 21,none,.indexAddr 1 (.t 19) (.t 20)⟩,
  ⟨some 22,none,.load false false 1 (.t 21)⟩,
  ⟨some 23,none,.build [.str [],.bool false,.str [],.str [],.bool false,.str [],.str [],.bool false,.bool false,.str [],.str [],.nilslice] [(0,1,(.t 22))]⟩,
  ⟨some 24,none,.bslice false 1 12 [.str [],.bool false,.str [],.str [],.bool false,.str [],.str [],.bool false,.bool false,.str [],.str [],.nilslice] [(0,12,(.t 23))]⟩,
  ⟨some 25,none,.append true 12 168 (.t 18) (.t 24)⟩,
  ⟨some 26,none,.fieldAddr 0 (.t 4)⟩,
  ⟨none,none,.store 1 (.t 26) (.t 25)⟩]
theorem gantkeep4_Small_r6_d : drawC [0,1,0,0,12,28,60,124,255,511,1023] [
  ⟨some 17,none,.fieldAddr 0 (.t 4)⟩,
  ⟨some 18,none,.load true false 1 (.t 17)⟩,
  ⟨some 19,none,.bslice false 2 1 [.str [],.str []] [(0,1,(.c (.str [97,110,110]))),(1,1,(.c (.str [98,111,98])))]⟩,
  ⟨some 20,none,.mv false (.t 5)⟩,
  ⟨some 21,none,.indexAddr 1 (.t 19) (.t 20)⟩,
  ⟨some 22,none,.load false false 1 (.t 21)⟩,
  ⟨some 23,none,.build [.str [],.bool false,.str [],.str [],.bool false,.str [],.str [],.bool false,.bool false,.str [],.str [],.nilslice] [(0,1,(.t 22))]⟩,
  ⟨some 24,none,.bslice false 1 12 [.str [],.bool false,.str [],.str [],.bool false,.str [],.str [],.bool false,.bool false,.str [],.str [],.nilslice] [(0,12,(.t 23))]⟩,
  ⟨some 25,none,.append true 12 168 (.t 18) (.t 24)⟩,
  ⟨some 26,none,.fieldAddr 0 (.t 4)⟩,
  ⟨none,none,.store 1 (.t 26) (.t 25)⟩] = false ∧ drawW [0,1,0,0,12,28,60,124,255,511,1023] [
  ⟨some 17,none,.fieldAddr 0 (.t 4)⟩,
  ⟨some 18,none,.load true false 1 (.t 17)⟩,
  ⟨some 19,none,.bslice false 2 1 [.str [],.str []] [(0,1,(.c (.str [97,110,110]))),(1,1,(.c (.str [98,111,98])))]⟩,
  ⟨some 20,none,.mv false (.t 5)⟩,
  ⟨some 21,none,.indexAddr 1 (.t 19) (.t 20)⟩,
  ⟨some 22,none,.load false false 1 (.t 21)⟩,
  ⟨some 23,none,.build [.str [],.bool false,.str [],.str [],.bool false,.str [],.str [],.bool false,.bool false,.str [],.str [],.nilslice] [(0,1,(.t 22))]⟩,
  ⟨some 24,none,.bslice false 1 12 [.str [],.bool false,.str [],.str [],.bool false,.str [],.str [],.bool false,.bool false,.str [],.str [],.nilslice] [(0,12,(.t 23))]⟩,
  ⟨some 25,none,.append true 12 168 (.t 18) (.t 24)⟩,
  ⟨some 26,none,.fieldAddr 0 (.t 4)⟩,
  ⟨none,none,.store 1 (.t 26) (.t 25)⟩] = true := ⟨by kernel_rfl,by kernel_rfl⟩
def gantkeep4_Small_r7 : List LOper := [
  ⟨some 27,none,.bin .add (.t 14) (.c (.int .i64 1))⟩,
  ⟨some 14,none,.mv false (.t 27)⟩]
def gantkeep4_Small_b0 : LCode := (.seq (.ops gantkeep4_Small_r4) (.seq (.cond (.t 15) .skip (.exit 0)) (.seq (.block 1 (.seq (.ops gantkeep4_Small_r5) (.dops [0,1,0,0,12,28,60,124,255,511,1023] gantkeep4_Small_r6))) (.ops gantkeep4_Small_r7))))
def gantkeep4_Small_r8 : List LOper := [
  ⟨some 28,none,.mv false (.t 3)⟩,
  ⟨some 29,none,.call false 21 [(.t 28),(.c (.int .i64 2))]⟩,
  ⟨some 30,none,.bin .add (.c (.int .i64 1)) (.t 29)⟩,
  ⟨some 31,none,.mv false (.c (.int .i64 0))⟩]
def gantkeep4_Small_r9 : List LOper := [
  ⟨some 32,none,.bin .lss (.t 31) (.t 30)⟩]
def gantkeep4_Small_r10 : List LOper := [
  ⟨some 33,none,.mv false (.t 31)⟩,
  ⟨some 6,none,.mv false (.t 33)⟩]
def gantkeep4_Small_r11 : List LOper := [
  ⟨some 34,none,.fieldAddr 2 (.t 4)⟩,
  ⟨some 35,none,.load true false 1 (.t 34)⟩,
  ⟨some 36,none,.bslice false 2 1 [.str [],.str []] [(0,1,(.c (.str [98,111,108,116]))),(1,1,(.c (.str [110,117,116])))]⟩,
  ⟨some 37,none,.mv false (.t 6)⟩,
  ⟨some 38,none,.indexAddr 1 (.t 36) (.t 37)⟩,
  ⟨some 39,none,.load false false 1 (.t 38)⟩,
  ⟨some 40,none,.build [.str [],.nilslice,.bool false,.str [],.str [],.bool false,.str [],.str [],.bool false,.bool false,.str [],.str []] [(0,1,(.t 39))]⟩,
  ⟨some 41,none,.bslice false 1 12 [.str [],.nilslice,.bool false,.str [],.str [],.bool false,.str [],.str [],.bool false,.bool false,.str [],.str []] [(0,12,(.t 40))]⟩,
  ⟨some 42,none,.append true 12 168 (.t 35) (.t 41)⟩,
  ⟨some 43,none,.fieldAddr 2 (.t 4)⟩,
  ⟨none,none,.store 1 (.t 43) (.t 42)⟩]
theorem gantkeep4_Small_r11_d : drawC [0,1,0,0,12,28,60,124,255,511,1023] [
  ⟨some 34,none,.fieldAddr 2 (.t 4)⟩,
  ⟨some 35,none,.load true false 1 (.t 34)⟩,
  ⟨some 36,none,.bslice false 2 1 [.str [],.str []] [(0,1,(.c (.str [98,111,108,116]))),(1,1,(.c (.str [110,117,116])))]⟩,
  ⟨some 37,none,.mv false (.t 6)⟩,
  ⟨some 38,none,.indexAddr 1 (.t 36) (.t 37)⟩,
  ⟨some 39,none,.load false false 1 (.t 38)⟩,
  ⟨some 40,none,.build [.str [],.nilslice,.bool false,.str [],.str [],.bool false,.str [],.str [],.bool false,.bool false,.str [],.str []] [(0,1,(.t 39))]⟩,
  ⟨some 41,none,.bslice false 1 12 [.str [],.nilslice,.bool false,.str [],.str [],.bool false,.str [],.str [],.bool false,.bool false,.str [],.str []] [(0,12,(.t 40))]⟩,
  ⟨some 42,none,.append true 12 168 (.t 35) (.t 41)⟩,
  ⟨some 43,none,.fieldAddr 2 (.t 4)⟩,
  ⟨none,none,.store 1 (.t 43) (.t 42)⟩] = false ∧ drawW [0,1,0,0,12,28,60,124,255,511,1023] [
  ⟨some 34,none,.fieldAddr 2 (.t 4)⟩,
  ⟨some 35,none,.load true false 1 (.t 34)⟩,
  ⟨some 36,none,.bslice false 2 1 [.str [],.str []] [(0,1,(.c (.str [98,111,108,116]))),(1,1,(.c (.str [110,117,116])))]⟩,
  ⟨some 37,none,.mv false (.t 6)⟩,
  ⟨some 38,none,.indexAddr 1 (.t 36) (.t 37)⟩,
  ⟨some 39,none,.load false false 1 (.t 38)⟩,
  ⟨some 40,none,.build [.str [],.nilslice,.bool false,.str [],.str [],.bool false,.str [],.str [],.bool false,.bool false,.str [],.str []] [(0,1,(.t 39))]⟩,
  ⟨some 41,none,.bslice false 1 12 [.str [],.nilslice,.bool false,.str [],.str [],.bool false,.str [],.str [],.bool false,.bool false,.str [],.str []] [(0,12,(.t 40))]⟩,
  ⟨some 42,none,.append true 12 168 (.t 35) (.t 41)⟩,
  ⟨some 43,none,.fieldAddr 2 (.t 4)⟩,
  ⟨none,none,.store 1 (.t 43) (.t 42)⟩] = true := ⟨by kernel_rfl,by kernel_rfl⟩
def gantkeep4_Small_r12 : List LOper := [
  ⟨some 44,none,.bin .add (.t 31) (.c (.int .i64 1))⟩,
  ⟨some 31,none,.mv false (.t 44)⟩]
def gantkeep4_Small_b1 : LCode := (.seq (.ops gantkeep4_Small_r9) (.seq (.cond (.t 32) .skip (.exit 2)) (.seq (.block 3 (.seq (.ops gantkeep4_Small_r10) (.dops [0,1,0,0,12,28,60,124,255,511,1023] gantkeep4_Small_r11))) (.ops gantkeep4_Small_r12))))
def gantkeep4_Small_r13 : List LOper := [
  ⟨some 45,none,.mv false (.t 3)⟩,
  ⟨some 46,none,.call false 21 [(.t 45),(.c (.int .i64 2))]⟩,
  ⟨some 47,none,.bin .add (.c (.int .i64 1)) (.t 46)⟩,
  ⟨some 48,none,.mv false (.c (.int .i64 0))⟩]
def gantkeep4_Small_r14 : List LOper := [
  ⟨some 49,none,.bin .lss (.t 48) (.t 47)⟩]
def gantkeep4_Small_r15 : List LOper := [
  ⟨some 50,none,.mv false (.t 48)⟩,
  ⟨some 7,none,.mv false (.t 50)⟩]
def gantkeep4_Small_r16 : List LOper := [
  ⟨some 51,none,.fieldAddr 3 (.t 4)⟩,
  ⟨some 52,none,.load true false 1 (.t 51)⟩,
  ⟨some 53,none,.bslice false 2 1 [.str [],.str []] [(0,1,(.c (.str [104,101,114,101]))),(1,1,(.c (.str [116,104,101,114,101])))]⟩,
  ⟨some 54,none,.mv false (.t 7)⟩,
  ⟨some 55,none,.indexAddr 1 (.t 53) (.t 54)⟩,
  ⟨some 56,none,.load false false 1 (.t 55)⟩,
  ⟨some 57,none,.call true 22 [(.c (.int .i64 1)),(.c (.int .i64 4))]⟩,
  ⟨some 58,none,.build [.str [],.bool false,.str [],.str [],.bool false,.str [],.str [],.bool false,.bool false,.str [],.str [],.bool false,.str [],.str []] [(0,1,(.t 56)),(11,3,(.t 57))]⟩,
  ⟨some 59,none,.bslice false 1 14 [.str [],.bool false,.str [],.str [],.bool false,.str [],.str [],.bool false,.bool false,.str [],.str [],.bool false,.str [],.str []] [(0,14,(.t 58))]⟩,
  ⟨some 60,none,.append true 14 184 (.t 52) (.t 59)⟩,
  ⟨some 61,none,.fieldAddr 3 (.t 4)⟩,
  ⟨none,none,.store 1 (.t 61) (.t 60)⟩]
theorem gantkeep4_Small_r16_d : drawC [0,1,0,0,12,28,0,124,252,511,1023,2047] [
  ⟨some 51,none,.fieldAddr 3 (.t 4)⟩,
  ⟨some 52,none,.load true false 1 (.t 51)⟩,
  ⟨some 53,none,.bslice false 2 1 [.str [],.str []] [(0,1,(.c (.str [104,101,114,101]))),(1,1,(.c (.str [116,104,101,114,101])))]⟩,
  ⟨some 54,none,.mv false (.t 7)⟩,
  ⟨some 55,none,.indexAddr 1 (.t 53) (.t 54)⟩,
  ⟨some 56,none,.load false false 1 (.t 55)⟩,
  ⟨some 57,none,.call true 22 [(.c (.int .i64 1)),(.c (.int .i64 4))]⟩,
  ⟨some 58,none,.build [.str [],.bool false,.str [],.str [],.bool false,.str [],.str [],.bool false,.bool false,.str [],.str [],.bool false,.str [],.str []] [(0,1,(.t 56)),(11,3,(.t 57))]⟩,
  ⟨some 59,none,.bslice false 1 14 [.str [],.bool false,.str [],.str [],.bool false,.str [],.str [],.bool false,.bool false,.str [],.str [],.bool false,.str [],.str []] [(0,14,(.t 58))]⟩,
  ⟨some 60,none,.append true 14 184 (.t 52) (.t 59)⟩,
  ⟨some 61,none,.fieldAddr 3 (.t 4)⟩,
  ⟨none,none,.store 1 (.t 61) (.t 60)⟩] = false ∧ drawW [0,1,0,0,12,28,0,124,252,511,1023,2047] [
  ⟨some 51,none,.fieldAddr 3 (.t 4)⟩,
  ⟨some 52,none,.load true false 1 (.t 51)⟩,
  ⟨some 53,none,.bslice false 2 1 [.str [],.str []] [(0,1,(.c (.str [104,101,114,101]))),(1,1,(.c (.str [116,104,101,114,101])))]⟩,
  ⟨some 54,none,.mv false (.t 7)⟩,
  ⟨some 55,none,.indexAddr 1 (.t 53) (.t 54)⟩,
  ⟨some 56,none,.load false false 1 (.t 55)⟩,
  ⟨some 57,none,.call true 22 [(.c (.int .i64 1)),(.c (.int .i64 4))]⟩,
  ⟨some 58,none,.build [.str [],.bool false,.str [],.str [],.bool false,.str [],.str [],.bool false,.bool false,.str [],.str [],.bool false,.str [],.str []] [(0,1,(.t 56)),(11,3,(.t 57))]⟩,
  ⟨some 59,none,.bslice false 1 14 [.str [],.bool false,.str [],.str [],.bool false,.str [],.str [],.bool false,.bool false,.str [],.str [],.bool false,.str [],.str []] [(0,14,(.t 58))]⟩,
  ⟨some 60,none,.append true 14 184 (.t 52) (.t 59)⟩,
  ⟨some 61,none,.fieldAddr 3 (.t 4)⟩,
  ⟨none,none,.store 1 (.t 61) (.t 60)⟩] = true := ⟨by kernel_rfl,by kernel_rfl⟩
def gantkeep4_Small_r17 : List LOper := [
  ⟨some 62,none,.bin .add (.t 48) (.c (.int .i64 1))⟩,
  ⟨some 48,none,.mv false (.t 62)⟩]
def gantkeep4_Small_b2 : LCode := (.seq (.ops gantkeep4_Small_r14) (.seq (.cond (.t 49) .skip (.exit 4)) (.seq (.block 5 (.seq (.ops gantkeep4_Small_r15) (.dops [0,1,0,0,12,28,0,124,252,511,1023,2047] gantkeep4_Small_r16))) (.ops gantkeep4_Small_r17))))
def gantkeep4_Small_r18 : List LOper := [
  ⟨some 63,none,.load false true 8 (.t 4)⟩,
  ⟨none,none,.store 8 (.t 2) (.t 63)⟩]
def gantkeep4_Small_f : LFunc := ⟨64,1,[.cell 2 true 8],(.seq (.ops gantkeep4_Small_r0) (.seq (.ops gantkeep4_Small_r1) (.seq (.ops gantkeep4_Small_r2) (.seq (.seq (.ops gantkeep4_Small_r3) (.block 0 (.loop [2,3,4,13,14] gantkeep4_Small_b0))) (.seq (.seq (.ops gantkeep4_Small_r8) (.block 2 (.loop [2,3,4,30,31] gantkeep4_Small_b1))) (.seq (.seq (.ops gantkeep4_Small_r13) (.block 4 (.loop [2,4,47,48] gantkeep4_Small_b2))) (.seq (.ops gantkeep4_Small_r18) .ret)))))))⟩
def gantkeep4_Small_v : VFunc := ⟨gantkeep4_Small_f,true,false,false⟩
theorem gantkeep4_Small_ok : preFunc Tryz.prog ⟨[18,35,52],[],[57]⟩ Tryz.f10 [[2,3,4,13,14],[2,3,4,30,31],[2,4,47,48]] = some gantkeep4_Small_f := by kernel_rfl

-- gantry/word.Read
def word_Read_r0 : List LOper := [
  ⟨some 2,none,.mv false (.c (.nilslice))⟩,
  ⟨some 3,none,.mv false (.c (.int .i64 0))⟩]
def word_Read_r1 : List LOper := [
  ⟨some 8,none,.mv false (.t 0)⟩,
  ⟨some 9,none,.lenS (.t 8)⟩,
  ⟨some 10,none,.bin .gtr (.t 9) (.c (.int .i64 4096))⟩]
def word_Read_r2 : List LOper := [
  ⟨some 2,none,.mv false (.c (.nilslice))⟩,
  ⟨some 3,none,.mv false (.c (.int .i64 2))⟩]
def word_Read_r3 : List LOper := [
  ⟨some 4,none,.mv true (.c (.nilslice))⟩]
def word_Read_r4 : List LOper := [
  ⟨some 11,none,.mv false (.t 0)⟩,
  ⟨some 12,none,.call false 23 [(.t 11),(.c (.int .i64 0))]⟩,
  ⟨some 5,none,.mv false (.t 12)⟩]
def word_Read_r5 : List LOper := [
  ⟨some 13,none,.mv false (.t 5)⟩,
  ⟨some 14,none,.mv false (.t 0)⟩,
  ⟨some 15,none,.lenS (.t 14)⟩,
  ⟨some 16,none,.bin .lss (.t 13) (.t 15)⟩]
def word_Read_r6 : List LOper := [
  ⟨some 18,none,.mv false (.t 0)⟩,
  ⟨some 19,none,.mv false (.t 5)⟩,
  ⟨some 20,none,.call false 24 [(.t 18),(.t 19)]⟩,
  ⟨some 17,none,.mv false (.t 20)⟩,
  ⟨some 21,none,.extract 0 (.t 17)⟩,
  ⟨some 22,none,.extract 1 (.t 17)⟩,
  ⟨some 6,none,.alloc [.int .i64 0,.int .i64 0,.str []]⟩,
  ⟨none,none,.store 3 (.t 6) (.t 21)⟩,
  ⟨some 7,none,.mv false (.t 22)⟩]
def word_Read_r7 : List LOper := [
  ⟨some 23,none,.mv false (.t 7)⟩,
  ⟨some 24,none,.bin .neq (.t 23) (.c (.int .i64 0))⟩]
def word_Read_r8 : List LOper := [
  ⟨some 25,none,.mv false (.t 7)⟩,
  ⟨some 2,none,.mv false (.c (.nilslice))⟩,
  ⟨some 3,none,.mv false (.t 25)⟩]
def word_Read_r9 : List LOper := [
  ⟨some 26,none,.mv true (.t 4)⟩,
  ⟨some 27,none,.load false true 3 (.t 6)⟩,
  ⟨some 28,none,.bslice false 1 3 [.int .i64 0,.int .i64 0,.str []] [(0,3,(.t 27))]⟩,
  ⟨some 29,none,.append true 3 32 (.t 26) (.t 28)⟩,
  ⟨some 4,none,.mv true (.t 29)⟩]
def word_Read_r10 : List LOper := [
  ⟨some 30,none,.mv false (.t 0)⟩,
  ⟨some 31,none,.mv false (.t 5)⟩,
  ⟨some 32,none,.fieldAddr 2 (.t 6)⟩,
  ⟨some 33,none,.load false false 1 (.t 32)⟩,
  ⟨some 34,none,.lenS (.t 33)⟩,
  ⟨some 35,none,.bin .add (.t 31) (.t 34)⟩,
  ⟨some 36,none,.call false 23 [(.t 30),(.t 35)]⟩,
  ⟨some 5,none,.mv false (.t 36)⟩]
def word_Read_b0 : LCode := (.seq (.seq (.ops word_Read_r5) (.cond (.t 16) .skip (.exit 0))) (.block 1 (.seq (.ops word_Read_r6) (.seq (.seq (.ops word_Read_r7) (.cond (.t 24) (.seq (.ops word_Read_r8) .ret) .skip)) (.seq (.ops word_Read_r9) (.ops word_Read_r10))))))
def word_Read_r11 : List LOper := [
  ⟨some 37,none,.mv false (.t 4)⟩,
  ⟨some 2,none,.mv false (.t 37)⟩,
  ⟨some 3,none,.mv false (.c (.int .i64 0))⟩]
def word_Read_f : LFunc := ⟨38,1,[.tmp 2,.tmp 3],(.seq (.ops word_Read_r0) (.seq (.seq (.ops word_Read_r1) (.cond (.t 10) (.seq (.ops word_Read_r2) .ret) .skip)) (.seq (.ops word_Read_r3) (.seq (.seq (.ops word_Read_r4) (.block 0 (.loop [0,4,5] word_Read_b0))) (.seq (.ops word_Read_r11) .ret)))))⟩
def word_Read_v : VFunc := ⟨word_Read_f,true,false,false⟩
theorem word_Read_ok : preFunc Tryz.prog ⟨[4,26,29],[],[]⟩ Tryz.f11 [[0,4,5]] = some word_Read_f := by kernel_rfl

-- (*gantry/parse.reader).take
def parse_reader_take_r0 : List LOper := [
  ⟨some 4,none,.mv false (.c (.bool false))⟩]
def parse_reader_take_r1 : List LOper := [
  ⟨some 5,none,.mv false (.t 0)⟩,
  ⟨some 6,none,.nilchk (.t 5)⟩,
  ⟨some 7,none,.fieldAddr 0 (.t 6)⟩,
  ⟨some 8,none,.load false false 1 (.t 7)⟩,
  ⟨some 9,none,.lenL (.t 8)⟩,
  ⟨some 10,none,.bin .eql (.t 9) (.c (.int .i64 0))⟩,
  ⟨some 11,none,.mv false (.t 10)⟩,
  ⟨some 12,some (11,false),.mv false (.t 0)⟩,
  ⟨some 13,some (11,false),.nilchk (.t 12)⟩,
  ⟨some 14,some (11,false),.fieldAddr 0 (.t 13)⟩,
  ⟨some 15,some (11,false),.load false false 1 (.t 14)⟩,
  ⟨some 16,some (11,false),.indexAddr 3 (.t 15) (.c (.int .i64 0))⟩,
  ⟨some 17,some (11,false),.fieldAddr 2 (.t 16)⟩,
  ⟨some 18,some (11,false),.load false false 1 (.t 17)⟩,
  ⟨some 19,some (11,false),.mv false (.t 1)⟩,
  ⟨some 20,some (11,false),.bin .neq (.t 18) (.t 19)⟩,
  ⟨some 21,none,.pick (.t 11) (.c (.bool true)) (.t 20)⟩]
def parse_reader_take_r2 : List LOper := [
  ⟨some 4,none,.mv false (.c (.bool false))⟩]
def parse_reader_take_r3 : List LOper := [
  ⟨some 22,none,.mv false (.t 0)⟩,
  ⟨some 23,none,.mv false (.t 0)⟩,
  ⟨some 24,none,.nilchk (.t 23)⟩,
  ⟨some 25,none,.fieldAddr 0 (.t 24)⟩,
  ⟨some 26,none,.load false false 1 (.t 25)⟩,
  ⟨some 27,none,.slc 3 (.t 26) (some (.c (.int .i64 1))) none none⟩,
  ⟨some 28,none,.nilchk (.t 22)⟩,
  ⟨some 29,none,.fieldAddr 0 (.t 28)⟩,
  ⟨none,none,.store 1 (.t 29) (.t 27)⟩]
def parse_reader_take_r4 : List LOper := [
  ⟨some 4,none,.mv false (.c (.bool true))⟩]
def parse_reader_take_f : LFunc := ⟨30,2,[.tmp 4],(.seq (.ops parse_reader_take_r0) (.seq (.seq (.ops parse_reader_take_r1) (.cond (.t 21) (.seq (.ops parse_reader_take_r2) .ret) .skip)) (.seq (.ops parse_reader_take_r3) (.seq (.ops parse_reader_take_r4) .ret))))⟩
def parse_reader_take_v : VFunc := ⟨parse_reader_take_f,false,false,false⟩
theorem parse_reader_take_ok : preFunc Tryz.prog ⟨[],[],[]⟩ Tryz.f12 [] = some parse_reader_take_f := by kernel_rfl

-- (*gantry/parse.reader).name
def parse_reader_name_r0 : List LOper := [
  ⟨some 2,none,.mv false (.c (.str []))⟩,
  ⟨some 3,none,.mv false (.c (.bool false))⟩]
def parse_reader_name_r1 : List LOper := [
  ⟨some 5,none,.mv false (.t 0)⟩,
  ⟨some 6,none,.nilchk (.t 5)⟩,
  ⟨some 7,none,.fieldAddr 0 (.t 6)⟩,
  ⟨some 8,none,.load false false 1 (.t 7)⟩,
  ⟨some 9,none,.lenL (.t 8)⟩,
  ⟨some 10,none,.bin .eql (.t 9) (.c (.int .i64 0))⟩,
  ⟨some 11,none,.mv false (.t 10)⟩,
  ⟨some 12,some (11,false),.mv false (.t 0)⟩,
  ⟨some 13,some (11,false),.nilchk (.t 12)⟩,
  ⟨some 14,some (11,false),.fieldAddr 0 (.t 13)⟩,
  ⟨some 15,some (11,false),.load false false 1 (.t 14)⟩,
  ⟨some 16,some (11,false),.indexAddr 3 (.t 15) (.c (.int .i64 0))⟩,
  ⟨some 17,some (11,false),.fieldAddr 0 (.t 16)⟩,
  ⟨some 18,some (11,false),.load false false 1 (.t 17)⟩,
  ⟨some 19,some (11,false),.bin .neq (.t 18) (.c (.int .i64 1))⟩,
  ⟨some 20,none,.pick (.t 11) (.c (.bool true)) (.t 19)⟩,
  ⟨some 21,none,.mv false (.t 20)⟩,
  ⟨some 22,some (21,false),.mv false (.t 0)⟩,
  ⟨some 23,some (21,false),.nilchk (.t 22)⟩,
  ⟨some 24,some (21,false),.fieldAddr 0 (.t 23)⟩,
  ⟨some 25,some (21,false),.load false false 1 (.t 24)⟩,
  ⟨some 26,some (21,false),.indexAddr 3 (.t 25) (.c (.int .i64 0))⟩,
  ⟨some 27,some (21,false),.fieldAddr 2 (.t 26)⟩,
  ⟨some 28,some (21,false),.load false false 1 (.t 27)⟩,
  ⟨some 29,some (21,false),.call false 25 [(.t 28)]⟩,
  ⟨some 30,none,.pick (.t 21) (.c (.bool true)) (.t 29)⟩]
def parse_reader_name_r2 : List LOper := [
  ⟨some 2,none,.mv false (.c (.str []))⟩,
  ⟨some 3,none,.mv false (.c (.bool false))⟩]
def parse_reader_name_r3 : List LOper := [
  ⟨some 31,none,.mv false (.t 0)⟩,
  ⟨some 32,none,.nilchk (.t 31)⟩,
  ⟨some 33,none,.fieldAddr 0 (.t 32)⟩,
  ⟨some 34,none,.load false false 1 (.t 33)⟩,
  ⟨some 35,none,.indexAddr 3 (.t 34) (.c (.int .i64 0))⟩,
  ⟨some 36,none,.fieldAddr 2 (.t 35)⟩,
  ⟨some 37,none,.load false false 1 (.t 36)⟩,
  ⟨some 4,none,.mv false (.t 37)⟩]
def parse_reader_name_r4 : List LOper := [
  ⟨some 38,none,.mv false (.t 0)⟩,
  ⟨some 39,none,.mv false (.t 0)⟩,
  ⟨some 40,none,.nilchk (.t 39)⟩,
  ⟨some 41,none,.fieldAddr 0 (.t 40)⟩,
  ⟨some 42,none,.load false false 1 (.t 41)⟩,
  ⟨some 43,none,.slc 3 (.t 42) (some (.c (.int .i64 1))) none none⟩,
  ⟨some 44,none,.nilchk (.t 38)⟩,
  ⟨some 45,none,.fieldAddr 0 (.t 44)⟩,
  ⟨none,none,.store 1 (.t 45) (.t 43)⟩]
def parse_reader_name_r5 : List LOper := [
  ⟨some 46,none,.mv false (.t 4)⟩,
  ⟨some 2,none,.mv false (.t 46)⟩,
  ⟨some 3,none,.mv false (.c (.bool true))⟩]
def parse_reader_name_f : LFunc := ⟨47,1,[.tmp 2,.tmp 3],(.seq (.ops parse_reader_name_r0) (.seq (.seq (.ops parse_reader_name_r1) (.cond (.t 30) (.seq (.ops parse_reader_name_r2) .ret) .skip)) (.seq (.ops parse_reader_name_r3) (.seq (.ops parse_reader_name_r4) (.seq (.ops parse_reader_name_r5) .ret)))))⟩
def parse_reader_name_v : VFunc := ⟨parse_reader_name_f,false,false,false⟩
theorem parse_reader_name_ok : preFunc Tryz.prog ⟨[],[],[]⟩ Tryz.f13 [] = some parse_reader_name_f := by kernel_rfl

-- (*gantry/parse.reader).block
def parse_reader_block_r0 : List LOper := [
  ⟨some 4,none,.mv false (.c (.nilslice))⟩,
  ⟨some 5,none,.mv false (.c (.int .i64 0))⟩]
def parse_reader_block_r1 : List LOper := [
  ⟨some 9,none,.mv false (.t 0)⟩,
  ⟨some 10,none,.call false 12 [(.t 9),(.c (.str [123]))]⟩,
  ⟨some 11,none,.un .not (.t 10)⟩]
def parse_reader_block_r2 : List LOper := [
  ⟨some 4,none,.mv false (.c (.nilslice))⟩,
  ⟨some 5,none,.mv false (.c (.int .i64 15))⟩]
def parse_reader_block_r3 : List LOper := [
  ⟨some 12,none,.mv false (.t 1)⟩,
  ⟨some 13,none,.bin .gtr (.t 12) (.c (.int .i64 5))⟩]
def parse_reader_block_r4 : List LOper := [
  ⟨some 4,none,.mv false (.c (.nilslice))⟩,
  ⟨some 5,none,.mv false (.c (.int .i64 2))⟩]
def parse_reader_block_r5 : List LOper := [
  ⟨some 6,none,.mv true (.c (.nilslice))⟩]
def parse_reader_block_r6 : List LOper := [
  ⟨some 14,none,.mv false (.t 0)⟩,
  ⟨some 15,none,.call false 12 [(.t 14),(.c (.str [125]))]⟩,
  ⟨some 16,none,.un .not (.t 15)⟩]
def parse_reader_block_r7 : List LOper := [
  ⟨some 18,none,.mv false (.t 0)⟩,
  ⟨some 19,none,.mv false (.t 1)⟩,
  ⟨some 20,none,.call false 26 [(.t 18),(.t 19)]⟩,
  ⟨some 17,none,.mv false (.t 20)⟩,
  ⟨some 21,none,.extract 0 (.t 17)⟩,
  ⟨some 22,none,.extract 1 (.t 17)⟩,
  ⟨some 7,none,.alloc [.int .i64 0,.str [],.str [],.bool false,.str [],.str [],.int .i64 0,.nilslice]⟩,
  ⟨none,none,.store 8 (.t 7) (.t 21)⟩,
  ⟨some 8,none,.mv false (.t 22)⟩]
def parse_reader_block_r8 : List LOper := [
  ⟨some 23,none,.mv false (.t 8)⟩,
  ⟨some 24,none,.bin .neq (.t 23) (.c (.int .i64 0))⟩]
def parse_reader_block_r9 : List LOper := [
  ⟨some 25,none,.mv false (.t 8)⟩,
  ⟨some 4,none,.mv false (.c (.nilslice))⟩,
  ⟨some 5,none,.mv false (.t 25)⟩]
def parse_reader_block_r10 : List LOper := [
  ⟨some 26,none,.mv true (.t 6)⟩,
  ⟨some 27,none,.load false true 8 (.t 7)⟩,
  ⟨some 28,none,.bslice false 1 8 [.int .i64 0,.str [],.str [],.bool false,.str [],.str [],.int .i64 0,.nilslice] [(0,8,(.t 27))]⟩,
  ⟨some 29,none,.append true 8 112 (.t 26) (.t 28)⟩,
  ⟨some 6,none,.mv true (.t 29)⟩]
def parse_reader_block_b0 : LCode := (.seq (.seq (.ops parse_reader_block_r6) (.cond (.t 16) .skip (.exit 0))) (.block 1 (.seq (.ops parse_reader_block_r7) (.seq (.seq (.ops parse_reader_block_r8) (.cond (.t 24) (.seq (.ops parse_reader_block_r9) .ret) .skip)) (.ops parse_reader_block_r10)))))
def parse_reader_block_r11 : List LOper := [
  ⟨some 30,none,.mv false (.t 6)⟩,
  ⟨some 4,none,.mv false (.t 30)⟩,
  ⟨some 5,none,.mv false (.c (.int .i64 0))⟩]
def parse_reader_block_f : LFunc := ⟨31,2,[.tmp 4,.tmp 5],(.seq (.ops parse_reader_block_r0) (.seq (.seq (.ops parse_reader_block_r1) (.cond (.t 11) (.seq (.ops parse_reader_block_r2) .ret) .skip)) (.seq (.seq (.ops parse_reader_block_r3) (.cond (.t 13) (.seq (.ops parse_reader_block_r4) .ret) .skip)) (.seq (.ops parse_reader_block_r5) (.seq (.block 0 (.loop [0,1,6] parse_reader_block_b0)) (.seq (.ops parse_reader_block_r11) .ret))))))⟩
def parse_reader_block_v : VFunc := ⟨parse_reader_block_f,false,false,false⟩
theorem parse_reader_block_ok : preFunc Tryz.prog ⟨[6,26,29],[],[]⟩ Tryz.f14 [[0,1,6]] = some parse_reader_block_f := by kernel_rfl

-- gantry/parse.Check
def parse_Check_r0 : List LOper := [
  ⟨some 1,none,.box (.t 0)⟩,
  ⟨some 2,none,.mv false (.c (.int .i64 0))⟩]
def parse_Check_r1 : List LOper := [
  ⟨some 5,none,.fieldAddr 0 (.t 1)⟩,
  ⟨some 6,none,.load false false 1 (.t 5)⟩,
  ⟨some 7,none,.call false 27 [(.t 6)]⟩,
  ⟨some 8,none,.un .not (.t 7)⟩]
def parse_Check_r2 : List LOper := [
  ⟨some 2,none,.mv false (.c (.int .i64 3))⟩]
def parse_Check_r3 : List LOper := [
  ⟨some 10,none,.fieldAddr 1 (.t 1)⟩,
  ⟨some 11,none,.load false false 1 (.t 10)⟩,
  ⟨some 12,none,.call false 28 [(.t 11),(.c (.int .i64 1))]⟩,
  ⟨some 9,none,.mv false (.t 12)⟩,
  ⟨some 13,none,.extract 0 (.t 9)⟩,
  ⟨some 14,none,.extract 1 (.t 9)⟩,
  ⟨some 3,none,.mv false (.t 13)⟩,
  ⟨some 4,none,.mv false (.t 14)⟩]
def parse_Check_r4 : List LOper := [
  ⟨some 15,none,.mv false (.t 4)⟩,
  ⟨some 2,none,.mv false (.t 15)⟩]
def parse_Check_f : LFunc := ⟨16,1,[.tmp 2],(.seq (.ops parse_Check_r0) (.seq (.seq (.ops parse_Check_r1) (.cond (.t 8) (.seq (.ops parse_Check_r2) .ret) .skip)) (.seq (.ops parse_Check_r3) (.seq (.ops parse_Check_r4) .ret))))⟩
def parse_Check_v : VFunc := ⟨parse_Check_f,true,false,false⟩
theorem parse_Check_ok : preFunc Tryz.prog ⟨[],[],[]⟩ Tryz.f15 [] = some parse_Check_f := by kernel_rfl

-- (*gantry/parse.printer).put
def parse_printer_put_r0 : List LOper := [
  ⟨some 4,none,.mv false (.t 0)⟩,
  ⟨some 5,none,.mv false (.t 0)⟩,
  ⟨some 6,none,.nilchk (.t 5)⟩,
  ⟨some 7,none,.fieldAddr 0 (.t 6)⟩,
  ⟨some 8,none,.load true false 1 (.t 7)⟩,
  ⟨some 9,none,.mv false (.t 1)⟩,
  ⟨some 10,none,.append true 1 16 (.t 8) (.t 9)⟩,
  ⟨some 11,none,.nilchk (.t 4)⟩,
  ⟨some 12,none,.fieldAddr 0 (.t 11)⟩,
  ⟨none,none,.store 1 (.t 12) (.t 10)⟩]
def parse_printer_put_f : LFunc := ⟨13,2,[],(.ops parse_printer_put_r0)⟩
def parse_printer_put_v : VFunc := ⟨parse_printer_put_f,false,false,false⟩
theorem parse_printer_put_ok : preFunc Tryz.prog ⟨[8],[],[]⟩ Tryz.f16 [] = some parse_printer_put_f := by kernel_rfl

-- (*gantry/parse.printer).block
def parse_printer_block_r0 : List LOper := [
  ⟨some 6,none,.mv false (.t 0)⟩,
  ⟨some 7,none,.bslice false 1 1 [.str []] [(0,1,(.c (.str [123])))]⟩,
  ⟨some 8,none,.call false 16 [(.t 6),(.t 7)]⟩]
def parse_printer_block_r1 : List LOper := [
  ⟨some 9,none,.mv false (.t 1)⟩,
  ⟨some 10,none,.lenL (.t 9)⟩,
  ⟨some 11,none,.mv false (.c (.int .i64 0))⟩]
def parse_printer_block_r2 : List LOper := [
  ⟨some 12,none,.bin .lss (.t 11) (.t 10)⟩]
def parse_printer_block_r3 : List LOper := [
  ⟨some 13,none,.indexAddr 8 (.t 9) (.t 11)⟩,
  ⟨some 14,none,.load false true 8 (.t 13)⟩,
  ⟨some 5,none,.alloc [.int .i64 0,.str [],.str [],.bool false,.str [],.str [],.int .i64 0,.nilslice]⟩,
  ⟨none,none,.store 8 (.t 5) (.t 14)⟩]
def parse_printer_block_r4 : List LOper := [
  ⟨some 15,none,.mv false (.t 0)⟩,
  ⟨some 16,none,.load false true 8 (.t 5)⟩,
  ⟨some 17,none,.call false 29 [(.t 15),(.t 16)]⟩]
def parse_printer_block_r5 : List LOper := [
  ⟨some 18,none,.bin .add (.t 11) (.c (.int .i64 1))⟩,
  ⟨some 11,none,.mv false (.t 18)⟩]
def parse_printer_block_b0 : LCode := (.seq (.ops parse_printer_block_r2) (.seq (.cond (.t 12) .skip (.exit 0)) (.seq (.block 1 (.seq (.ops parse_printer_block_r3) (.ops parse_printer_block_r4))) (.ops parse_printer_block_r5))))
def parse_printer_block_r6 : List LOper := [
  ⟨some 19,none,.mv false (.t 0)⟩,
  ⟨some 20,none,.bslice false 1 1 [.str []] [(0,1,(.c (.str [125])))]⟩,
  ⟨some 21,none,.call false 16 [(.t 19),(.t 20)]⟩]
def parse_printer_block_f : LFunc := ⟨22,2,[],(.seq (.ops parse_printer_block_r0) (.seq (.seq (.ops parse_printer_block_r1) (.block 0 (.loop [0,9,10,11] parse_printer_block_b0))) (.ops parse_printer_block_r6)))⟩
def parse_printer_block_v : VFunc := ⟨parse_printer_block_f,false,false,false⟩
theorem parse_printer_block_ok : preFunc Tryz.prog ⟨[],[],[]⟩ Tryz.f17 [[0,9,10,11]] = some parse_printer_block_f := by kernel_rfl

-- gantry/parse.sameAll
def parse_sameAll_r0 : List LOper := [
  ⟨some 4,none,.mv false (.c (.bool false))⟩]
def parse_sameAll_r1 : List LOper := [
  ⟨some 5,none,.mv false (.t 0)⟩,
  ⟨some 6,none,.mv false (.t 1)⟩,
  ⟨some 7,none,.call false 33 [(.t 5),(.t 6),(.c (.func 34 []))]⟩,
  ⟨some 4,none,.mv false (.t 7)⟩]
def parse_sameAll_f : LFunc := ⟨8,2,[.tmp 4],(.seq (.ops parse_sameAll_r0) (.seq (.ops parse_sameAll_r1) .ret))⟩
def parse_sameAll_v : VFunc := ⟨parse_sameAll_f,true,false,false⟩
theorem parse_sameAll_ok : preFunc Tryz.prog ⟨[],[],[]⟩ Tryz.f19 [] = some parse_sameAll_f := by kernel_rfl

-- gantry/gantkeep4.stmts
def gantkeep4_stmts_r0 : List LOper := [
  ⟨some 3,none,.box (.t 0)⟩,
  ⟨some 6,none,.mv false (.c (.nilslice))⟩]
def gantkeep4_stmts_r1 : List LOper := [
  ⟨some 7,none,.mv true (.c (.nilslice))⟩]
def gantkeep4_stmts_r2 : List LOper := [
  ⟨some 8,none,.mv false (.t 1)⟩,
  ⟨some 9,none,.call false 21 [(.t 8),(.c (.int .i64 2))]⟩,
  ⟨some 10,none,.bin .add (.c (.int .i64 1)) (.t 9)⟩,
  ⟨some 11,none,.mv false (.c (.int .i64 0))⟩]
def gantkeep4_stmts_r3 : List LOper := [
  ⟨some 12,none,.bin .lss (.t 11) (.t 10)⟩]
def gantkeep4_stmts_r4 : List LOper := [
  ⟨some 13,none,.mv true (.t 7)⟩,
  ⟨some 14,none,.load false true 8 (.t 3)⟩,
  ⟨some 15,none,.mv false (.t 1)⟩,
  ⟨some 16,none,.mv false (.t 2)⟩,
  ⟨some 17,none,.call false 35 [(.t 14),(.t 15),(.t 16)]⟩,
  ⟨some 18,none,.bslice false 1 8 [.int .i64 0,.str [],.str [],.bool false,.str [],.str [],.int .i64 0,.nilslice] [(0,8,(.t 17))]⟩,
  ⟨some 19,none,.append true 8 112 (.t 13) (.t 18)⟩,
  ⟨some 7,none,.mv true (.t 19)⟩]
def gantkeep4_stmts_r5 : List LOper := [
  ⟨some 20,none,.bin .add (.t 11) (.c (.int .i64 1))⟩,
  ⟨some 11,none,.mv false (.t 20)⟩]
def gantkeep4_stmts_b0 : LCode := (.seq (.ops gantkeep4_stmts_r3) (.seq (.cond (.t 12) .skip (.exit 0)) (.seq (.block 1 (.ops gantkeep4_stmts_r4)) (.ops gantkeep4_stmts_r5))))
def gantkeep4_stmts_r6 : List LOper := [
  ⟨some 21,none,.mv false (.t 7)⟩,
  ⟨some 6,none,.mv false (.t 21)⟩]
def gantkeep4_stmts_f : LFunc := ⟨22,3,[.tmp 6],(.seq (.ops gantkeep4_stmts_r0) (.seq (.ops gantkeep4_stmts_r1) (.seq (.seq (.ops gantkeep4_stmts_r2) (.block 0 (.loop [1,2,3,7,10,11] gantkeep4_stmts_b0))) (.seq (.ops gantkeep4_stmts_r6) .ret))))⟩
def gantkeep4_stmts_v : VFunc := ⟨gantkeep4_stmts_f,false,false,false⟩
theorem gantkeep4_stmts_ok : preFunc Tryz.prog ⟨[7,13,19],[],[]⟩ Tryz.f20 [[1,2,3,7,10,11]] = some gantkeep4_stmts_f := by kernel_rfl

-- (*gantry/gantmake.Stream).Next
def gantmake_Stream_Next_r0 : List LOper := [
  ⟨some 4,none,.mv false (.c (.int .i64 0))⟩]
def gantmake_Stream_Next_r1 : List LOper := [
  ⟨some 6,none,.mv false (.t 0)⟩,
  ⟨some 7,none,.nilchk (.t 6)⟩,
  ⟨some 8,none,.fieldAddr 0 (.t 7)⟩,
  ⟨some 9,none,.load false false 1 (.t 8)⟩,
  ⟨some 10,none,.lenL (.t 9)⟩,
  ⟨some 11,none,.bin .eql (.t 10) (.c (.int .i64 0))⟩,
  ⟨some 12,none,.mv false (.t 11)⟩,
  ⟨some 13,some (12,false),.mv false (.t 1)⟩,
  ⟨some 14,some (12,false),.bin .lss (.t 13) (.c (.int .i64 1))⟩,
  ⟨some 15,none,.pick (.t 12) (.c (.bool true)) (.t 14)⟩]
def gantmake_Stream_Next_r2 : List LOper := [
  ⟨some 4,none,.mv false (.c (.int .i64 0))⟩]
def gantmake_Stream_Next_r3 : List LOper := [
  ⟨some 16,none,.mv false (.t 0)⟩,
  ⟨some 17,none,.nilchk (.t 16)⟩,
  ⟨some 18,none,.fieldAddr 0 (.t 17)⟩,
  ⟨some 19,none,.load false false 1 (.t 18)⟩,
  ⟨some 20,none,.indexAddr 1 (.t 19) (.c (.int .i64 0))⟩,
  ⟨some 21,none,.load false false 1 (.t 20)⟩,
  ⟨some 5,none,.mv false (.t 21)⟩]
def gantmake_Stream_Next_r4 : List LOper := [
  ⟨some 22,none,.mv false (.t 0)⟩,
  ⟨some 23,none,.mv false (.t 0)⟩,
  ⟨some 24,none,.nilchk (.t 23)⟩,
  ⟨some 25,none,.fieldAddr 0 (.t 24)⟩,
  ⟨some 26,none,.load false false 1 (.t 25)⟩,
  ⟨some 27,none,.slc 1 (.t 26) (some (.c (.int .i64 1))) none none⟩,
  ⟨some 28,none,.nilchk (.t 22)⟩,
  ⟨some 29,none,.fieldAddr 0 (.t 28)⟩,
  ⟨none,none,.store 1 (.t 29) (.t 27)⟩]
def gantmake_Stream_Next_r5 : List LOper := [
  ⟨some 30,none,.mv false (.t 5)⟩,
  ⟨some 31,none,.mv false (.t 1)⟩,
  ⟨some 32,none,.call false 36 [(.t 30),(.t 31)]⟩,
  ⟨some 4,none,.mv false (.t 32)⟩]
def gantmake_Stream_Next_f : LFunc := ⟨33,2,[.tmp 4],(.seq (.ops gantmake_Stream_Next_r0) (.seq (.seq (.ops gantmake_Stream_Next_r1) (.cond (.t 15) (.seq (.ops gantmake_Stream_Next_r2) .ret) .skip)) (.seq (.ops gantmake_Stream_Next_r3) (.seq (.ops gantmake_Stream_Next_r4) (.seq (.ops gantmake_Stream_Next_r5) .ret)))))⟩
def gantmake_Stream_Next_v : VFunc := ⟨gantmake_Stream_Next_f,false,false,false⟩
theorem gantmake_Stream_Next_ok : preFunc Tryz.prog ⟨[],[],[]⟩ Tryz.f21 [] = some gantmake_Stream_Next_f := by kernel_rfl

-- gantry/gantmake.Of
def gantmake_Of_r0 : List LOper := [
  ⟨some 4,none,.alloc [.bool false,.str [],.str []]⟩]
def gantmake_Of_r1 : List LOper := [
  ⟨some 7,none,.mv false (.t 0)⟩,
  ⟨some 8,none,.mv false (.t 0)⟩,
  ⟨some 9,none,.un .neg (.t 8)⟩,
  ⟨some 10,none,.max2 [(.t 7),(.t 9)]⟩,
  ⟨some 11,none,.mv false (.t 1)⟩,
  ⟨some 5,none,.mv false (.t 10)⟩,
  ⟨some 6,none,.mv false (.t 11)⟩]
def gantmake_Of_r2 : List LOper := [
  ⟨some 12,none,.mv false (.t 6)⟩,
  ⟨some 13,none,.bin .gtr (.t 12) (.c (.int .i64 0))⟩]
def gantmake_Of_r3 : List LOper := [
  ⟨some 14,none,.mv false (.t 6)⟩,
  ⟨some 15,none,.mv false (.t 5)⟩,
  ⟨some 16,none,.mv false (.t 6)⟩,
  ⟨some 17,none,.bin .rem (.t 15) (.t 16)⟩,
  ⟨some 5,none,.mv false (.t 14)⟩,
  ⟨some 6,none,.mv false (.t 17)⟩]
theorem gantmake_Of_r3_d : drawC [0,0,0,6,3,31] [
  ⟨some 14,none,.mv false (.t 6)⟩,
  ⟨some 15,none,.mv false (.t 5)⟩,
  ⟨some 16,none,.mv false (.t 6)⟩,
  ⟨some 17,none,.bin .rem (.t 15) (.t 16)⟩,
  ⟨some 5,none,.mv false (.t 14)⟩,
  ⟨some 6,none,.mv false (.t 17)⟩] = true := by kernel_rfl
def gantmake_Of_b0 : LCode := (.seq (.seq (.ops gantmake_Of_r2) (.cond (.t 13) .skip (.exit 0))) (.block 1 (.dops [0,0,0,6,3,31] gantmake_Of_r3)))
def gantmake_Of_r4 : List LOper := [
  ⟨some 18,none,.mv false (.t 0)⟩,
  ⟨some 19,none,.mv false (.t 5)⟩,
  ⟨some 20,none,.bin .quo (.t 18) (.t 19)⟩,
  ⟨some 21,none,.mv false (.t 1)⟩,
  ⟨some 22,none,.mv false (.t 5)⟩,
  ⟨some 23,none,.bin .quo (.t 21) (.t 22)⟩,
  ⟨some 0,none,.mv false (.t 20)⟩,
  ⟨some 1,none,.mv false (.t 23)⟩]
theorem gantmake_Of_r4_d : drawC [0,0,3,0,0,24,7,127] [
  ⟨some 18,none,.mv false (.t 0)⟩,
  ⟨some 19,none,.mv false (.t 5)⟩,
  ⟨some 20,none,.bin .quo (.t 18) (.t 19)⟩,
  ⟨some 21,none,.mv false (.t 1)⟩,
  ⟨some 22,none,.mv false (.t 5)⟩,
  ⟨some 23,none,.bin .quo (.t 21) (.t 22)⟩,
  ⟨some 0,none,.mv false (.t 20)⟩,
  ⟨some 1,none,.mv false (.t 23)⟩] = true := by kernel_rfl
def gantmake_Of_r5 : List LOper := [
  ⟨some 24,none,.mv false (.t 0)⟩,
  ⟨some 25,none,.bin .lss (.t 24) (.c (.int .i64 0))⟩,
  ⟨some 26,none,.mv false (.t 0)⟩,
  ⟨some 27,none,.mv false (.t 0)⟩,
  ⟨some 28,none,.un .neg (.t 27)⟩,
  ⟨some 29,none,.max2 [(.t 26),(.t 28)]⟩,
  ⟨some 30,none,.call false 37 [(.t 29)]⟩,
  ⟨some 31,none,.mv false (.t 1)⟩,
  ⟨some 32,none,.call false 37 [(.t 31)]⟩,
  ⟨some 33,none,.build [.bool false,.str [],.str []] [(0,1,(.t 25)),(1,1,(.t 30)),(2,1,(.t 32))]⟩,
  ⟨none,none,.store 3 (.t 4) (.t 33)⟩]
def gantmake_Of_f : LFunc := ⟨34,2,[.cell 4 true 3],(.seq (.ops gantmake_Of_r0) (.seq (.ops gantmake_Of_r1) (.seq (.block 0 (.loop [0,1,4,5,6] gantmake_Of_b0)) (.seq (.dops [0,0,3,0,0,24,7,127] gantmake_Of_r4) (.seq (.ops gantmake_Of_r5) .ret)))))⟩
def gantmake_Of_v : VFunc := ⟨gantmake_Of_f,true,false,false⟩
theorem gantmake_Of_ok : preFunc Tryz.prog ⟨[],[],[]⟩ Tryz.f22 [[0,1,4,5,6]] = some gantmake_Of_f := by kernel_rfl

-- gantry/word.skip
def word_skip_r0 : List LOper := [
  ⟨some 4,none,.mv false (.c (.int .i64 0))⟩]
def word_skip_r1 : List LOper := [
  ⟨some 5,none,.mv false (.t 1)⟩,
  ⟨some 6,none,.mv false (.t 0)⟩,
  ⟨some 7,none,.lenS (.t 6)⟩,
  ⟨some 8,none,.bin .lss (.t 5) (.t 7)⟩]
def word_skip_r2 : List LOper := [
  ⟨some 11,none,.mv false (.t 0)⟩,
  ⟨some 12,none,.mv false (.t 1)⟩,
  ⟨some 13,none,.index (.t 11) (.t 12)⟩,
  ⟨some 14,none,.call false 38 [(.t 13)]⟩,
  ⟨some 10,none,.mv false (.t 14)⟩]
def word_skip_r3 : List LOper := [
  ⟨some 15,none,.mv false (.t 1)⟩,
  ⟨some 16,none,.bin .add (.t 15) (.c (.int .i64 1))⟩,
  ⟨some 1,none,.mv false (.t 16)⟩]
def word_skip_r4 : List LOper := [
  ⟨some 18,none,.mv false (.t 0)⟩,
  ⟨some 19,none,.mv false (.t 1)⟩,
  ⟨some 20,none,.index (.t 18) (.t 19)⟩,
  ⟨some 21,none,.bin .eql (.t 20) (.c (.int .u8 35))⟩,
  ⟨some 17,none,.mv false (.t 21)⟩]
def word_skip_r5 : List LOper := [
  ⟨some 22,none,.mv false (.t 1)⟩,
  ⟨some 23,none,.mv false (.t 0)⟩,
  ⟨some 24,none,.lenS (.t 23)⟩,
  ⟨some 25,none,.bin .lss (.t 22) (.t 24)⟩,
  ⟨some 26,none,.mv false (.t 25)⟩,
  ⟨some 27,some (26,true),.mv false (.t 0)⟩,
  ⟨some 28,some (26,true),.mv false (.t 1)⟩,
  ⟨some 29,some (26,true),.index (.t 27) (.t 28)⟩,
  ⟨some 30,some (26,true),.bin .neq (.t 29) (.c (.int .u8 10))⟩,
  ⟨some 31,none,.pick (.t 26) (.t 30) (.c (.bool false))⟩]
def word_skip_r6 : List LOper := [
  ⟨some 32,none,.mv false (.t 1)⟩,
  ⟨some 33,none,.bin .add (.t 32) (.c (.int .i64 1))⟩,
  ⟨some 1,none,.mv false (.t 33)⟩]
def word_skip_b1 : LCode := (.seq (.seq (.ops word_skip_r5) (.cond (.t 31) .skip (.exit 3))) (.block 4 (.ops word_skip_r6)))
def word_skip_r7 : List LOper := [
  ⟨some 9,none,.mv false (.t 1)⟩,
  ⟨some 4,none,.mv false (.t 9)⟩]
def word_skip_b0 : LCode := (.seq (.seq (.ops word_skip_r1) (.cond (.t 8) .skip (.exit 0))) (.block 1 (.block 2 (.seq (.ops word_skip_r2) (.cond (.t 10) (.ops word_skip_r3) (.seq (.ops word_skip_r4) (.cond (.t 17) (.block 3 (.loop [0,1] word_skip_b1)) (.seq (.ops word_skip_r7) .ret))))))))
def word_skip_r8 : List LOper := [
  ⟨some 34,none,.mv false (.t 1)⟩,
  ⟨some 4,none,.mv false (.t 34)⟩]
def word_skip_f : LFunc := ⟨35,2,[.tmp 4],(.seq (.ops word_skip_r0) (.seq (.block 0 (.loop [0,1] word_skip_b0)) (.seq (.ops word_skip_r8) .ret)))⟩
def word_skip_v : VFunc := ⟨word_skip_f,true,false,false⟩
theorem word_skip_ok : preFunc Tryz.prog ⟨[],[],[]⟩ Tryz.f23 [[0,1],[0,1]] = some word_skip_f := by kernel_rfl

-- gantry/word.one
def word_one_r0 : List LOper := [
  ⟨some 4,none,.alloc [.int .i64 0,.int .i64 0,.str []]⟩,
  ⟨some 5,none,.mv false (.c (.int .i64 0))⟩]
def word_one_r1 : List LOper := [
  ⟨some 9,none,.mv false (.t 1)⟩,
  ⟨some 10,none,.build [.int .i64 0,.int .i64 0,.str []] [(1,1,(.t 9))]⟩,
  ⟨some 6,none,.alloc [.int .i64 0,.int .i64 0,.str []]⟩,
  ⟨none,none,.store 3 (.t 6) (.t 10)⟩]
def word_one_r2 : List LOper := [
  ⟨some 11,none,.mv false (.t 1)⟩,
  ⟨some 12,none,.bin .add (.t 11) (.c (.int .i64 1))⟩,
  ⟨some 7,none,.mv false (.t 12)⟩]
def word_one_r3 : List LOper := [
  ⟨some 13,none,.mv false (.t 0)⟩,
  ⟨some 14,none,.mv false (.t 1)⟩,
  ⟨some 15,none,.index (.t 13) (.t 14)⟩,
  ⟨some 8,none,.mv false (.t 15)⟩]
def word_one_r4 : List LOper := [
  ⟨some 18,none,.mv false (.t 8)⟩,
  ⟨some 19,none,.call false 39 [(.t 18)]⟩,
  ⟨some 17,none,.mv false (.t 19)⟩]
def word_one_r5 : List LOper := [
  ⟨some 20,none,.mv false (.t 0)⟩,
  ⟨some 21,none,.mv false (.t 1)⟩,
  ⟨some 22,none,.call false 40 [(.t 20),(.t 21),(.c (.func 39 []))]⟩,
  ⟨some 23,none,.fieldAddr 0 (.t 6)⟩,
  ⟨none,none,.store 1 (.t 23) (.c (.int .i64 1))⟩,
  ⟨some 7,none,.mv false (.t 22)⟩]
def word_one_r6 : List LOper := [
  ⟨some 25,none,.mv false (.t 8)⟩,
  ⟨some 26,none,.call false 41 [(.t 25)]⟩,
  ⟨some 24,none,.mv false (.t 26)⟩]
def word_one_r7 : List LOper := [
  ⟨some 27,none,.mv false (.t 0)⟩,
  ⟨some 28,none,.mv false (.t 1)⟩,
  ⟨some 29,none,.call false 40 [(.t 27),(.t 28),(.c (.func 41 []))]⟩,
  ⟨some 30,none,.fieldAddr 0 (.t 6)⟩,
  ⟨none,none,.store 1 (.t 30) (.c (.int .i64 2))⟩,
  ⟨some 7,none,.mv false (.t 29)⟩]
def word_one_r8 : List LOper := [
  ⟨some 31,none,.mv false (.t 7)⟩,
  ⟨some 32,none,.bin .add (.t 31) (.c (.int .i64 1))⟩,
  ⟨some 33,none,.mv false (.t 0)⟩,
  ⟨some 34,none,.lenS (.t 33)⟩,
  ⟨some 35,none,.bin .lss (.t 32) (.t 34)⟩,
  ⟨some 36,none,.mv false (.t 35)⟩,
  ⟨some 37,some (36,true),.mv false (.t 0)⟩,
  ⟨some 38,some (36,true),.mv false (.t 7)⟩,
  ⟨some 39,some (36,true),.index (.t 37) (.t 38)⟩,
  ⟨some 40,some (36,true),.bin .eql (.t 39) (.c (.int .u8 47))⟩,
  ⟨some 41,none,.pick (.t 36) (.t 40) (.c (.bool false))⟩,
  ⟨some 42,none,.mv false (.t 41)⟩,
  ⟨some 43,some (42,true),.mv false (.t 0)⟩,
  ⟨some 44,some (42,true),.mv false (.t 7)⟩,
  ⟨some 45,some (42,true),.bin .add (.t 44) (.c (.int .i64 1))⟩,
  ⟨some 46,some (42,true),.index (.t 43) (.t 45)⟩,
  ⟨some 47,some (42,true),.call false 41 [(.t 46)]⟩,
  ⟨some 48,none,.pick (.t 42) (.t 47) (.c (.bool false))⟩]
def word_one_r9 : List LOper := [
  ⟨some 49,none,.mv false (.t 0)⟩,
  ⟨some 50,none,.mv false (.t 7)⟩,
  ⟨some 51,none,.bin .add (.t 50) (.c (.int .i64 1))⟩,
  ⟨some 52,none,.call false 40 [(.t 49),(.t 51),(.c (.func 41 []))]⟩,
  ⟨some 7,none,.mv false (.t 52)⟩]
def word_one_r10 : List LOper := [
  ⟨some 54,none,.mv false (.t 8)⟩,
  ⟨some 55,none,.call false 42 [(.t 54)]⟩,
  ⟨some 53,none,.mv false (.t 55)⟩]
def word_one_r11 : List LOper := [
  ⟨some 56,none,.fieldAddr 0 (.t 6)⟩,
  ⟨none,none,.store 1 (.t 56) (.c (.int .i64 3))⟩]
def word_one_r12 : List LOper := [
  ⟨some 16,none,.build [.int .i64 0,.int .i64 0,.str []] []⟩,
  ⟨none,none,.store 3 (.t 4) (.t 16)⟩,
  ⟨some 5,none,.mv false (.c (.int .i64 15))⟩]
def word_one_r13 : List LOper := [
  ⟨some 57,none,.mv false (.t 0)⟩,
  ⟨some 58,none,.mv false (.t 1)⟩,
  ⟨some 59,none,.mv false (.t 7)⟩,
  ⟨some 60,none,.slc 0 (.t 57) (some (.t 58)) (some (.t 59)) none⟩,
  ⟨some 61,none,.fieldAddr 2 (.t 6)⟩,
  ⟨none,none,.store 1 (.t 61) (.t 60)⟩]
def word_one_r14 : List LOper := [
  ⟨some 62,none,.fieldAddr 0 (.t 6)⟩,
  ⟨some 63,none,.load false false 1 (.t 62)⟩,
  ⟨some 64,none,.bin .eql (.t 63) (.c (.int .i64 1))⟩,
  ⟨some 65,none,.mv false (.t 64)⟩,
  ⟨some 66,some (65,true),.fieldAddr 2 (.t 6)⟩,
  ⟨some 67,some (65,true),.load false false 1 (.t 66)⟩,
  ⟨some 68,some (65,true),.call false 43 [(.t 67)]⟩,
  ⟨some 69,some (65,true),.un .not (.t 68)⟩,
  ⟨some 70,none,.pick (.t 65) (.t 69) (.c (.bool false))⟩,
  ⟨some 71,none,.mv false (.t 70)⟩,
  ⟨some 72,some (71,false),.fieldAddr 0 (.t 6)⟩,
  ⟨some 73,some (71,false),.load false false 1 (.t 72)⟩,
  ⟨some 74,some (71,false),.bin .eql (.t 73) (.c (.int .i64 2))⟩,
  ⟨some 75,some (71,false),.mv false (.t 74)⟩,
  ⟨some 76,some (75,true),.fieldAddr 2 (.t 6)⟩,
  ⟨some 77,some (75,true),.load false false 1 (.t 76)⟩,
  ⟨some 78,some (75,true),.call false 44 [(.t 77)]⟩,
  ⟨some 79,some (75,true),.un .not (.t 78)⟩,
  ⟨some 80,some (71,false),.pick (.t 75) (.t 79) (.c (.bool false))⟩,
  ⟨some 81,none,.pick (.t 71) (.c (.bool true)) (.t 80)⟩]
def word_one_r15 : List LOper := [
  ⟨some 82,none,.build [.int .i64 0,.int .i64 0,.str []] []⟩,
  ⟨none,none,.store 3 (.t 4) (.t 82)⟩,
  ⟨some 5,none,.mv false (.c (.int .i64 2))⟩]
def word_one_r16 : List LOper := [
  ⟨some 83,none,.load false true 3 (.t 6)⟩,
  ⟨none,none,.store 3 (.t 4) (.t 83)⟩,
  ⟨some 5,none,.mv false (.c (.int .i64 0))⟩]
def word_one_f : LFunc := ⟨84,2,[.cell 4 true 3,.tmp 5],(.seq (.ops word_one_r0) (.seq (.ops word_one_r1) (.seq (.ops word_one_r2) (.seq (.seq (.ops word_one_r3) (.block 0 (.seq (.ops word_one_r4) (.cond (.t 17) (.ops word_one_r5) (.seq (.ops word_one_r6) (.cond (.t 24) (.seq (.ops word_one_r7) (.seq (.ops word_one_r8) (.cond (.t 48) (.ops word_one_r9) .skip))) (.seq (.ops word_one_r10) (.cond (.t 53) (.ops word_one_r11) (.seq (.ops word_one_r12) .ret))))))))) (.seq (.ops word_one_r13) (.seq (.seq (.ops word_one_r14) (.cond (.t 81) (.seq (.ops word_one_r15) .ret) .skip)) (.seq (.ops word_one_r16) .ret)))))))⟩
def word_one_v : VFunc := ⟨word_one_f,true,false,false⟩
theorem word_one_ok : preFunc Tryz.prog ⟨[],[],[]⟩ Tryz.f24 [] = some word_one_f := by kernel_rfl

-- gantry/parse.keyword
def parse_keyword_r0 : List LOper := [
  ⟨some 2,none,.mv false (.c (.bool false))⟩]
def parse_keyword_r1 : List LOper := [
  ⟨some 3,none,.bslice false 15 1 [.str [],.str [],.str [],.str [],.str [],.str [],.str [],.str [],.str [],.str [],.str [],.str [],.str [],.str [],.str []] [(0,1,(.c (.str [106,111,98]))),(1,1,(.c (.str [112,117,116]))),(2,1,(.c (.str [105,110]))),(3,1,(.c (.str [119,105,116,104,105,110]))),(4,1,(.c (.str [104,111,108,100]))),(5,1,(.c (.str [119,105,116,104]))),(6,1,(.c (.str [102,114,101,101]))),(7,1,(.c (.str [115,101,101]))),(8,1,(.c (.str [119,97,105,116]))),(9,1,(.c (.str [100,111]))),(10,1,(.c (.str [114,101,112,101,97,116]))),(11,1,(.c (.str [97,110,121]))),(12,1,(.c (.str [111,114]))),(13,1,(.c (.str [116,114,121]))),(14,1,(.c (.str [101,108,115,101])))]⟩,
  ⟨some 4,none,.mv false (.t 0)⟩,
  ⟨some 5,none,.call false 45 [(.t 3),(.t 4)]⟩,
  ⟨some 2,none,.mv false (.t 5)⟩]
def parse_keyword_f : LFunc := ⟨6,1,[.tmp 2],(.seq (.ops parse_keyword_r0) (.seq (.ops parse_keyword_r1) .ret))⟩
def parse_keyword_v : VFunc := ⟨parse_keyword_f,true,false,false⟩
theorem parse_keyword_ok : preFunc Tryz.prog ⟨[],[],[]⟩ Tryz.f25 [] = some parse_keyword_f := by kernel_rfl

-- (*gantry/parse.reader).stmt
def parse_reader_stmt_r0 : List LOper := [
  ⟨some 4,none,.alloc [.int .i64 0,.str [],.str [],.bool false,.str [],.str [],.int .i64 0,.nilslice]⟩,
  ⟨some 5,none,.mv false (.c (.int .i64 0))⟩]
def parse_reader_stmt_r1 : List LOper := [
  ⟨some 6,none,.alloc [.int .i64 0,.str [],.str [],.bool false,.str [],.str [],.int .i64 0,.nilslice]⟩]
def parse_reader_stmt_r2 : List LOper := [
  ⟨some 9,none,.mv false (.t 0)⟩,
  ⟨some 10,none,.nilchk (.t 9)⟩,
  ⟨some 11,none,.fieldAddr 0 (.t 10)⟩,
  ⟨some 12,none,.load false false 1 (.t 11)⟩,
  ⟨some 13,none,.call false 46 [(.t 12)]⟩,
  ⟨some 14,none,.un .not (.t 13)⟩]
def parse_reader_stmt_r3 : List LOper := [
  ⟨some 15,none,.load false true 8 (.t 6)⟩,
  ⟨none,none,.store 8 (.t 4) (.t 15)⟩,
  ⟨some 5,none,.mv false (.c (.int .i64 15))⟩]
def parse_reader_stmt_r4 : List LOper := [
  ⟨some 16,none,.mv false (.t 0)⟩,
  ⟨some 17,none,.nilchk (.t 16)⟩,
  ⟨some 18,none,.fieldAddr 1 (.t 17)⟩,
  ⟨some 19,none,.load false false 1 (.t 18)⟩,
  ⟨some 20,none,.bin .sub (.t 19) (.c (.int .i64 1))⟩,
  ⟨some 21,none,.nilchk (.t 16)⟩,
  ⟨some 22,none,.fieldAddr 1 (.t 21)⟩,
  ⟨none,none,.store 1 (.t 22) (.t 20)⟩]
def parse_reader_stmt_r5 : List LOper := [
  ⟨some 23,none,.mv false (.t 0)⟩,
  ⟨some 24,none,.nilchk (.t 23)⟩,
  ⟨some 25,none,.fieldAddr 1 (.t 24)⟩,
  ⟨some 26,none,.load false false 1 (.t 25)⟩,
  ⟨some 27,none,.bin .lss (.t 26) (.c (.int .i64 0))⟩]
def parse_reader_stmt_r6 : List LOper := [
  ⟨some 28,none,.load false true 8 (.t 6)⟩,
  ⟨none,none,.store 8 (.t 4) (.t 28)⟩,
  ⟨some 5,none,.mv false (.c (.int .i64 2))⟩]
def parse_reader_stmt_r7 : List LOper := [
  ⟨some 7,none,.mv false (.c (.int .i64 0))⟩,
  ⟨some 8,none,.mv false (.c (.bool true))⟩]
def parse_reader_stmt_r8 : List LOper := [
  ⟨some 40,none,.mv false (.t 0)⟩,
  ⟨some 41,none,.call false 12 [(.t 40),(.c (.str [100,111]))]⟩,
  ⟨some 39,none,.mv false (.t 41)⟩]
def parse_reader_stmt_r9 : List LOper := [
  ⟨some 42,none,.fieldAddr 0 (.t 6)⟩,
  ⟨none,none,.store 1 (.t 42) (.c (.int .i64 6))⟩]
def parse_reader_stmt_r10 : List LOper := [
  ⟨some 44,none,.mv false (.t 0)⟩,
  ⟨some 45,none,.mv false (.t 1)⟩,
  ⟨some 46,none,.bin .add (.t 45) (.c (.int .i64 1))⟩,
  ⟨some 47,none,.call false 47 [(.t 44),(.t 46),(.c (.str [])),(.c (.int .i64 1))]⟩,
  ⟨some 43,none,.mv false (.t 47)⟩,
  ⟨some 48,none,.extract 0 (.t 43)⟩,
  ⟨some 49,none,.extract 1 (.t 43)⟩,
  ⟨some 50,none,.fieldAddr 7 (.t 6)⟩,
  ⟨none,none,.store 1 (.t 50) (.t 48)⟩,
  ⟨some 7,none,.mv false (.t 49)⟩]
def parse_reader_stmt_r11 : List LOper := [
  ⟨some 52,none,.mv false (.t 0)⟩,
  ⟨some 53,none,.call false 12 [(.t 52),(.c (.str [97,110,121]))]⟩,
  ⟨some 51,none,.mv false (.t 53)⟩]
def parse_reader_stmt_r12 : List LOper := [
  ⟨some 54,none,.fieldAddr 0 (.t 6)⟩,
  ⟨none,none,.store 1 (.t 54) (.c (.int .i64 8))⟩]
def parse_reader_stmt_r13 : List LOper := [
  ⟨some 56,none,.mv false (.t 0)⟩,
  ⟨some 57,none,.mv false (.t 1)⟩,
  ⟨some 58,none,.bin .add (.t 57) (.c (.int .i64 1))⟩,
  ⟨some 59,none,.call false 47 [(.t 56),(.t 58),(.c (.str [111,114])),(.c (.int .i64 4))]⟩,
  ⟨some 55,none,.mv false (.t 59)⟩,
  ⟨some 60,none,.extract 0 (.t 55)⟩,
  ⟨some 61,none,.extract 1 (.t 55)⟩,
  ⟨some 62,none,.fieldAddr 7 (.t 6)⟩,
  ⟨none,none,.store 1 (.t 62) (.t 60)⟩,
  ⟨some 7,none,.mv false (.t 61)⟩]
def parse_reader_stmt_r14 : List LOper := [
  ⟨some 64,none,.mv false (.t 0)⟩,
  ⟨some 65,none,.call false 12 [(.t 64),(.c (.str [114,101,112,101,97,116]))]⟩,
  ⟨some 63,none,.mv false (.t 65)⟩]
def parse_reader_stmt_r15 : List LOper := [
  ⟨some 66,none,.fieldAddr 0 (.t 6)⟩,
  ⟨none,none,.store 1 (.t 66) (.c (.int .i64 7))⟩]
def parse_reader_stmt_r16 : List LOper := [
  ⟨some 68,none,.mv false (.t 0)⟩,
  ⟨some 69,none,.call false 48 [(.t 68)]⟩,
  ⟨some 67,none,.mv false (.t 69)⟩,
  ⟨some 70,none,.extract 0 (.t 67)⟩,
  ⟨some 71,none,.extract 1 (.t 67)⟩,
  ⟨some 72,none,.fieldAddr 6 (.t 6)⟩,
  ⟨none,none,.store 1 (.t 72) (.t 70)⟩,
  ⟨some 8,none,.mv false (.t 71)⟩]
def parse_reader_stmt_r17 : List LOper := [
  ⟨some 73,none,.mv false (.t 8)⟩]
def parse_reader_stmt_r18 : List LOper := [
  ⟨some 75,none,.mv false (.t 0)⟩,
  ⟨some 76,none,.mv false (.t 1)⟩,
  ⟨some 77,none,.bin .add (.t 76) (.c (.int .i64 1))⟩,
  ⟨some 78,none,.call false 47 [(.t 75),(.t 77),(.c (.str [])),(.c (.int .i64 1))]⟩,
  ⟨some 74,none,.mv false (.t 78)⟩,
  ⟨some 79,none,.extract 0 (.t 74)⟩,
  ⟨some 80,none,.extract 1 (.t 74)⟩,
  ⟨some 81,none,.fieldAddr 7 (.t 6)⟩,
  ⟨none,none,.store 1 (.t 81) (.t 79)⟩,
  ⟨some 7,none,.mv false (.t 80)⟩]
def parse_reader_stmt_r19 : List LOper := [
  ⟨some 83,none,.mv false (.t 0)⟩,
  ⟨some 84,none,.call false 12 [(.t 83),(.c (.str [116,114,121]))]⟩,
  ⟨some 82,none,.mv false (.t 84)⟩]
def parse_reader_stmt_r20 : List LOper := [
  ⟨some 85,none,.fieldAddr 0 (.t 6)⟩,
  ⟨none,none,.store 1 (.t 85) (.c (.int .i64 9))⟩]
def parse_reader_stmt_r21 : List LOper := [
  ⟨some 87,none,.mv false (.t 0)⟩,
  ⟨some 88,none,.mv false (.t 1)⟩,
  ⟨some 89,none,.bin .add (.t 88) (.c (.int .i64 1))⟩,
  ⟨some 90,none,.call false 47 [(.t 87),(.t 89),(.c (.str [101,108,115,101])),(.c (.int .i64 2))]⟩,
  ⟨some 86,none,.mv false (.t 90)⟩,
  ⟨some 91,none,.extract 0 (.t 86)⟩,
  ⟨some 92,none,.extract 1 (.t 86)⟩,
  ⟨some 93,none,.fieldAddr 7 (.t 6)⟩,
  ⟨none,none,.store 1 (.t 93) (.t 91)⟩,
  ⟨some 7,none,.mv false (.t 92)⟩]
def parse_reader_stmt_r22 : List LOper := [
  ⟨some 94,none,.mv false (.t 7)⟩,
  ⟨some 95,none,.bin .eql (.t 94) (.c (.int .i64 0))⟩]
def parse_reader_stmt_r23 : List LOper := [
  ⟨some 96,none,.fieldAddr 7 (.t 6)⟩,
  ⟨some 97,none,.load false false 1 (.t 96)⟩,
  ⟨some 98,none,.lenL (.t 97)⟩,
  ⟨some 99,none,.bin .eql (.t 98) (.c (.int .i64 2))⟩,
  ⟨some 8,none,.mv false (.t 99)⟩]
def parse_reader_stmt_r24 : List LOper := [
  ⟨some 30,none,.mv false (.t 0)⟩,
  ⟨some 31,none,.call false 49 [(.t 30)]⟩,
  ⟨some 29,none,.mv false (.t 31)⟩,
  ⟨some 32,none,.extract 0 (.t 29)⟩,
  ⟨some 33,none,.extract 1 (.t 29)⟩,
  ⟨none,none,.store 8 (.t 6) (.t 32)⟩,
  ⟨some 8,none,.mv false (.t 33)⟩]
def parse_reader_stmt_r25 : List LOper := [
  ⟨some 34,none,.mv false (.t 8)⟩,
  ⟨some 35,none,.mv false (.t 34)⟩,
  ⟨some 36,some (35,true),.mv false (.t 0)⟩,
  ⟨some 37,some (35,true),.call false 12 [(.t 36),(.c (.str [59]))]⟩,
  ⟨some 38,none,.pick (.t 35) (.t 37) (.c (.bool false))⟩,
  ⟨some 8,none,.mv false (.t 38)⟩]
def parse_reader_stmt_r26 : List LOper := [
  ⟨some 100,none,.mv false (.t 8)⟩,
  ⟨some 101,none,.un .not (.t 100)⟩]
def parse_reader_stmt_r27 : List LOper := [
  ⟨some 102,none,.build [.int .i64 0,.str [],.str [],.bool false,.str [],.str [],.int .i64 0,.nilslice] []⟩,
  ⟨none,none,.store 8 (.t 4) (.t 102)⟩,
  ⟨some 5,none,.mv false (.c (.int .i64 15))⟩]
def parse_reader_stmt_r28 : List LOper := [
  ⟨some 103,none,.load false true 8 (.t 6)⟩,
  ⟨some 104,none,.mv false (.t 7)⟩,
  ⟨none,none,.store 8 (.t 4) (.t 103)⟩,
  ⟨some 5,none,.mv false (.t 104)⟩]
def parse_reader_stmt_f : LFunc := ⟨105,2,[.cell 4 true 8,.tmp 5],(.seq (.ops parse_reader_stmt_r0) (.seq (.ops parse_reader_stmt_r1) (.seq (.seq (.ops parse_reader_stmt_r2) (.cond (.t 14) (.seq (.ops parse_reader_stmt_r3) .ret) .skip)) (.seq (.seq (.ops parse_reader_stmt_r4) (.seq (.ops parse_reader_stmt_r5) (.cond (.t 27) (.seq (.ops parse_reader_stmt_r6) .ret) .skip))) (.seq (.ops parse_reader_stmt_r7) (.seq (.block 0 (.seq (.ops parse_reader_stmt_r8) (.cond (.t 39) (.seq (.ops parse_reader_stmt_r9) (.ops parse_reader_stmt_r10)) (.seq (.ops parse_reader_stmt_r11) (.cond (.t 51) (.seq (.ops parse_reader_stmt_r12) (.ops parse_reader_stmt_r13)) (.seq (.ops parse_reader_stmt_r14) (.cond (.t 63) (.seq (.ops parse_reader_stmt_r15) (.seq (.ops parse_reader_stmt_r16) (.seq (.ops parse_reader_stmt_r17) (.cond (.t 73) (.ops parse_reader_stmt_r18) .skip)))) (.seq (.ops parse_reader_stmt_r19) (.cond (.t 82) (.seq (.ops parse_reader_stmt_r20) (.seq (.ops parse_reader_stmt_r21) (.seq (.ops parse_reader_stmt_r22) (.cond (.t 95) (.ops parse_reader_stmt_r23) .skip)))) (.seq (.ops parse_reader_stmt_r24) (.ops parse_reader_stmt_r25))))))))))) (.seq (.seq (.ops parse_reader_stmt_r26) (.cond (.t 101) (.seq (.ops parse_reader_stmt_r27) .ret) .skip)) (.seq (.ops parse_reader_stmt_r28) .ret))))))))⟩
def parse_reader_stmt_v : VFunc := ⟨parse_reader_stmt_f,false,false,false⟩
theorem parse_reader_stmt_ok : preFunc Tryz.prog ⟨[],[],[]⟩ Tryz.f26 [] = some parse_reader_stmt_f := by kernel_rfl

-- gantry/parse.Name
def parse_Name_r0 : List LOper := [
  ⟨some 2,none,.mv false (.c (.bool false))⟩]
def parse_Name_r1 : List LOper := [
  ⟨some 3,none,.mv false (.t 0)⟩,
  ⟨some 4,none,.call false 43 [(.t 3)]⟩,
  ⟨some 5,none,.mv false (.t 4)⟩,
  ⟨some 6,some (5,true),.mv false (.t 0)⟩,
  ⟨some 7,some (5,true),.call false 25 [(.t 6)]⟩,
  ⟨some 8,some (5,true),.un .not (.t 7)⟩,
  ⟨some 9,none,.pick (.t 5) (.t 8) (.c (.bool false))⟩,
  ⟨some 2,none,.mv false (.t 9)⟩]
def parse_Name_f : LFunc := ⟨10,1,[.tmp 2],(.seq (.ops parse_Name_r0) (.seq (.ops parse_Name_r1) .ret))⟩
def parse_Name_v : VFunc := ⟨parse_Name_f,true,false,false⟩
theorem parse_Name_ok : preFunc Tryz.prog ⟨[],[],[]⟩ Tryz.f27 [] = some parse_Name_f := by kernel_rfl

-- gantry/parse.stmts
def parse_stmts_r0 : List LOper := [
  ⟨some 4,none,.mv false (.c (.int .i64 0))⟩,
  ⟨some 5,none,.mv false (.c (.int .i64 0))⟩]
def parse_stmts_r1 : List LOper := [
  ⟨some 11,none,.mv false (.t 1)⟩,
  ⟨some 12,none,.bin .gtr (.t 11) (.c (.int .i64 5))⟩]
def parse_stmts_r2 : List LOper := [
  ⟨some 4,none,.mv false (.c (.int .i64 0))⟩,
  ⟨some 5,none,.mv false (.c (.int .i64 2))⟩]
def parse_stmts_r3 : List LOper := [
  ⟨some 6,none,.mv false (.c (.int .i64 0))⟩]
def parse_stmts_r4 : List LOper := [
  ⟨some 13,none,.mv false (.t 0)⟩,
  ⟨some 14,none,.lenL (.t 13)⟩,
  ⟨some 15,none,.mv false (.c (.int .i64 0))⟩]
def parse_stmts_r5 : List LOper := [
  ⟨some 16,none,.bin .lss (.t 15) (.t 14)⟩]
def parse_stmts_r6 : List LOper := [
  ⟨some 17,none,.indexAddr 8 (.t 13) (.t 15)⟩,
  ⟨some 18,none,.load false true 8 (.t 17)⟩,
  ⟨some 8,none,.alloc [.int .i64 0,.str [],.str [],.bool false,.str [],.str [],.int .i64 0,.nilslice]⟩,
  ⟨none,none,.store 8 (.t 8) (.t 18)⟩]
def parse_stmts_r7 : List LOper := [
  ⟨some 20,none,.load false true 8 (.t 8)⟩,
  ⟨some 21,none,.mv false (.t 1)⟩,
  ⟨some 22,none,.call false 50 [(.t 20),(.t 21)]⟩,
  ⟨some 19,none,.mv false (.t 22)⟩,
  ⟨some 23,none,.extract 0 (.t 19)⟩,
  ⟨some 24,none,.extract 1 (.t 19)⟩,
  ⟨some 9,none,.mv false (.t 23)⟩,
  ⟨some 10,none,.mv false (.t 24)⟩]
def parse_stmts_r8 : List LOper := [
  ⟨some 25,none,.mv false (.t 10)⟩,
  ⟨some 26,none,.bin .neq (.t 25) (.c (.int .i64 0))⟩]
def parse_stmts_r9 : List LOper := [
  ⟨some 27,none,.mv false (.t 10)⟩,
  ⟨some 4,none,.mv false (.c (.int .i64 0))⟩,
  ⟨some 5,none,.mv false (.t 27)⟩]
def parse_stmts_r10 : List LOper := [
  ⟨some 28,none,.mv false (.t 6)⟩,
  ⟨some 29,none,.mv false (.t 9)⟩,
  ⟨some 30,none,.bin .add (.t 28) (.t 29)⟩,
  ⟨some 6,none,.mv false (.t 30)⟩]
def parse_stmts_r11 : List LOper := [
  ⟨some 31,none,.mv false (.t 6)⟩,
  ⟨some 32,none,.bin .gtr (.t 31) (.c (.int .i64 100))⟩]
def parse_stmts_r12 : List LOper := [
  ⟨some 4,none,.mv false (.c (.int .i64 0))⟩,
  ⟨some 5,none,.mv false (.c (.int .i64 2))⟩]
def parse_stmts_r13 : List LOper := [
  ⟨some 33,none,.bin .add (.t 15) (.c (.int .i64 1))⟩,
  ⟨some 15,none,.mv false (.t 33)⟩]
def parse_stmts_b0 : LCode := (.seq (.ops parse_stmts_r5) (.seq (.cond (.t 16) .skip (.exit 0)) (.seq (.block 1 (.seq (.ops parse_stmts_r6) (.seq (.ops parse_stmts_r7) (.seq (.seq (.ops parse_stmts_r8) (.cond (.t 26) (.seq (.ops parse_stmts_r9) .ret) .skip)) (.seq (.ops parse_stmts_r10) (.seq (.ops parse_stmts_r11) (.cond (.t 32) (.seq (.ops parse_stmts_r12) .ret) .skip))))))) (.ops parse_stmts_r13))))
def parse_stmts_r14 : List LOper := [
  ⟨some 34,none,.mv false (.t 6)⟩,
  ⟨some 4,none,.mv false (.t 34)⟩,
  ⟨some 5,none,.mv false (.c (.int .i64 0))⟩]
def parse_stmts_f : LFunc := ⟨35,2,[.tmp 4,.tmp 5],(.seq (.ops parse_stmts_r0) (.seq (.seq (.ops parse_stmts_r1) (.cond (.t 12) (.seq (.ops parse_stmts_r2) .ret) .skip)) (.seq (.ops parse_stmts_r3) (.seq (.seq (.ops parse_stmts_r4) (.block 0 (.loop [1,6,13,14,15] parse_stmts_b0))) (.seq (.ops parse_stmts_r14) .ret)))))⟩
def parse_stmts_v : VFunc := ⟨parse_stmts_f,true,false,false⟩
theorem parse_stmts_ok : preFunc Tryz.prog ⟨[],[],[]⟩ Tryz.f28 [[1,6,13,14,15]] = some parse_stmts_f := by kernel_rfl

-- (*gantry/parse.printer).stmt
def parse_printer_stmt_r0 : List LOper := [
  ⟨some 3,none,.box (.t 1)⟩]
def parse_printer_stmt_r1 : List LOper := [
  ⟨some 6,none,.fieldAddr 0 (.t 3)⟩,
  ⟨some 7,none,.load false false 1 (.t 6)⟩]
def parse_printer_stmt_r2 : List LOper := [
  ⟨some 9,none,.bin .eql (.t 7) (.c (.int .i64 1))⟩,
  ⟨some 8,none,.mv false (.t 9)⟩]
def parse_printer_stmt_r3 : List LOper := [
  ⟨some 10,none,.mv false (.t 0)⟩,
  ⟨some 11,none,.fieldAddr 1 (.t 3)⟩,
  ⟨some 12,none,.load false false 1 (.t 11)⟩,
  ⟨some 13,none,.fieldAddr 2 (.t 3)⟩,
  ⟨some 14,none,.load false false 1 (.t 13)⟩,
  ⟨some 15,none,.bslice false 4 1 [.str [],.str [],.str [],.str []] [(0,1,(.c (.str [112,117,116]))),(1,1,(.t 12)),(2,1,(.c (.str [105,110]))),(3,1,(.t 14))]⟩,
  ⟨some 16,none,.call false 16 [(.t 10),(.t 15)]⟩]
def parse_printer_stmt_r4 : List LOper := [
  ⟨some 17,none,.fieldAddr 3 (.t 3)⟩,
  ⟨some 18,none,.load false true 3 (.t 17)⟩,
  ⟨some 19,none,.build [.bool false,.str [],.str []] []⟩,
  ⟨some 20,none,.eqv true (.struct [.b,.s,.s]) (.t 18) (.t 19)⟩]
def parse_printer_stmt_r5 : List LOper := [
  ⟨some 21,none,.mv false (.t 0)⟩,
  ⟨some 22,none,.fieldAddr 3 (.t 3)⟩,
  ⟨some 23,none,.load false true 3 (.t 22)⟩,
  ⟨some 24,none,.call false 51 [(.t 23)]⟩,
  ⟨some 25,none,.bslice false 2 1 [.str [],.str []] [(0,1,(.c (.str [119,105,116,104,105,110]))),(1,1,(.t 24))]⟩,
  ⟨some 26,none,.call false 16 [(.t 21),(.t 25)]⟩]
def parse_printer_stmt_r6 : List LOper := [
  ⟨some 28,none,.bin .eql (.t 7) (.c (.int .i64 2))⟩,
  ⟨some 27,none,.mv false (.t 28)⟩]
def parse_printer_stmt_r7 : List LOper := [
  ⟨some 29,none,.mv false (.t 0)⟩,
  ⟨some 30,none,.fieldAddr 1 (.t 3)⟩,
  ⟨some 31,none,.load false false 1 (.t 30)⟩,
  ⟨some 32,none,.fieldAddr 2 (.t 3)⟩,
  ⟨some 33,none,.load false false 1 (.t 32)⟩,
  ⟨some 34,none,.bslice false 4 1 [.str [],.str [],.str [],.str []] [(0,1,(.c (.str [104,111,108,100]))),(1,1,(.t 31)),(2,1,(.c (.str [119,105,116,104]))),(3,1,(.t 33))]⟩,
  ⟨some 35,none,.call false 16 [(.t 29),(.t 34)]⟩]
def parse_printer_stmt_r8 : List LOper := [
  ⟨some 37,none,.bin .eql (.t 7) (.c (.int .i64 3))⟩,
  ⟨some 36,none,.mv false (.t 37)⟩]
def parse_printer_stmt_r9 : List LOper := [
  ⟨some 38,none,.mv false (.t 0)⟩,
  ⟨some 39,none,.fieldAddr 1 (.t 3)⟩,
  ⟨some 40,none,.load false false 1 (.t 39)⟩,
  ⟨some 41,none,.bslice false 2 1 [.str [],.str []] [(0,1,(.c (.str [102,114,101,101]))),(1,1,(.t 40))]⟩,
  ⟨some 42,none,.call false 16 [(.t 38),(.t 41)]⟩]
def parse_printer_stmt_r10 : List LOper := [
  ⟨some 44,none,.bin .eql (.t 7) (.c (.int .i64 4))⟩,
  ⟨some 43,none,.mv false (.t 44)⟩]
def parse_printer_stmt_r11 : List LOper := [
  ⟨some 45,none,.mv false (.t 0)⟩,
  ⟨some 46,none,.fieldAddr 1 (.t 3)⟩,
  ⟨some 47,none,.load false false 1 (.t 46)⟩,
  ⟨some 48,none,.bslice false 2 1 [.str [],.str []] [(0,1,(.c (.str [115,101,101]))),(1,1,(.t 47))]⟩,
  ⟨some 49,none,.call false 16 [(.t 45),(.t 48)]⟩]
def parse_printer_stmt_r12 : List LOper := [
  ⟨some 51,none,.bin .eql (.t 7) (.c (.int .i64 5))⟩,
  ⟨some 50,none,.mv false (.t 51)⟩]
def parse_printer_stmt_r13 : List LOper := [
  ⟨some 52,none,.mv false (.t 0)⟩,
  ⟨some 53,none,.fieldAddr 6 (.t 3)⟩,
  ⟨some 54,none,.load false false 1 (.t 53)⟩,
  ⟨some 55,none,.call false 52 [(.t 54)]⟩,
  ⟨some 56,none,.bslice false 2 1 [.str [],.str []] [(0,1,(.c (.str [119,97,105,116]))),(1,1,(.t 55))]⟩,
  ⟨some 57,none,.call false 16 [(.t 52),(.t 56)]⟩]
def parse_printer_stmt_r14 : List LOper := [
  ⟨some 59,none,.bin .eql (.t 7) (.c (.int .i64 6))⟩,
  ⟨some 58,none,.mv false (.t 59)⟩]
def parse_printer_stmt_r15 : List LOper := [
  ⟨some 60,none,.mv false (.t 0)⟩,
  ⟨some 61,none,.bslice false 1 1 [.str []] [(0,1,(.c (.str [100,111])))]⟩,
  ⟨some 62,none,.call false 16 [(.t 60),(.t 61)]⟩]
def parse_printer_stmt_r16 : List LOper := [
  ⟨some 64,none,.bin .eql (.t 7) (.c (.int .i64 7))⟩,
  ⟨some 63,none,.mv false (.t 64)⟩]
def parse_printer_stmt_r17 : List LOper := [
  ⟨some 65,none,.mv false (.t 0)⟩,
  ⟨some 66,none,.fieldAddr 6 (.t 3)⟩,
  ⟨some 67,none,.load false false 1 (.t 66)⟩,
  ⟨some 68,none,.call false 52 [(.t 67)]⟩,
  ⟨some 69,none,.bslice false 2 1 [.str [],.str []] [(0,1,(.c (.str [114,101,112,101,97,116]))),(1,1,(.t 68))]⟩,
  ⟨some 70,none,.call false 16 [(.t 65),(.t 69)]⟩]
def parse_printer_stmt_r18 : List LOper := [
  ⟨some 72,none,.bin .eql (.t 7) (.c (.int .i64 8))⟩,
  ⟨some 71,none,.mv false (.t 72)⟩]
def parse_printer_stmt_r19 : List LOper := [
  ⟨some 73,none,.mv false (.t 0)⟩,
  ⟨some 74,none,.bslice false 1 1 [.str []] [(0,1,(.c (.str [97,110,121])))]⟩,
  ⟨some 75,none,.call false 16 [(.t 73),(.t 74)]⟩]
def parse_printer_stmt_r20 : List LOper := [
  ⟨some 77,none,.bin .eql (.t 7) (.c (.int .i64 9))⟩,
  ⟨some 76,none,.mv false (.t 77)⟩]
def parse_printer_stmt_r21 : List LOper := [
  ⟨some 78,none,.mv false (.t 0)⟩,
  ⟨some 79,none,.bslice false 1 1 [.str []] [(0,1,(.c (.str [116,114,121])))]⟩,
  ⟨some 80,none,.call false 16 [(.t 78),(.t 79)]⟩]
def parse_printer_stmt_r22 : List LOper := [
  ⟨some 81,none,.fieldAddr 0 (.t 3)⟩,
  ⟨some 82,none,.load false false 1 (.t 81)⟩,
  ⟨some 83,none,.bin .lss (.t 82) (.c (.int .i64 6))⟩]
def parse_printer_stmt_r23 : List LOper := [
  ⟨some 84,none,.mv false (.t 0)⟩,
  ⟨some 85,none,.bslice false 1 1 [.str []] [(0,1,(.c (.str [59])))]⟩,
  ⟨some 86,none,.call false 16 [(.t 84),(.t 85)]⟩]
def parse_printer_stmt_r24 : List LOper := [
  ⟨some 87,none,.fieldAddr 7 (.t 3)⟩,
  ⟨some 88,none,.load false false 1 (.t 87)⟩,
  ⟨some 89,none,.lenL (.t 88)⟩,
  ⟨some 90,none,.mv false (.c (.int .i64 0))⟩]
def parse_printer_stmt_r25 : List LOper := [
  ⟨some 91,none,.bin .lss (.t 90) (.t 89)⟩]
def parse_printer_stmt_r26 : List LOper := [
  ⟨some 92,none,.mv false (.t 90)⟩,
  ⟨some 93,none,.indexAddr 1 (.t 88) (.t 90)⟩,
  ⟨some 94,none,.load false false 1 (.t 93)⟩,
  ⟨some 4,none,.mv false (.t 92)⟩,
  ⟨some 5,none,.mv false (.t 94)⟩]
def parse_printer_stmt_r27 : List LOper := [
  ⟨some 95,none,.mv false (.t 4)⟩,
  ⟨some 96,none,.bin .gtr (.t 95) (.c (.int .i64 0))⟩]
def parse_printer_stmt_r28 : List LOper := [
  ⟨some 97,none,.mv false (.t 0)⟩,
  ⟨some 98,none,.mkmap⟩,
  ⟨none,none,.update (.t 98) (.c (.int .i64 8)) (.c (.str [111,114]))⟩,
  ⟨none,none,.update (.t 98) (.c (.int .i64 9)) (.c (.str [101,108,115,101]))⟩,
  ⟨some 99,none,.mv false (.t 98)⟩,
  ⟨some 100,none,.fieldAddr 0 (.t 3)⟩,
  ⟨some 101,none,.load false false 1 (.t 100)⟩,
  ⟨some 102,none,.lookup (.str []) false (.t 99) (.t 101)⟩,
  ⟨some 103,none,.bslice false 1 1 [.str []] [(0,1,(.t 102))]⟩,
  ⟨some 104,none,.call false 16 [(.t 97),(.t 103)]⟩]
def parse_printer_stmt_r29 : List LOper := [
  ⟨some 105,none,.mv false (.t 0)⟩,
  ⟨some 106,none,.mv false (.t 5)⟩,
  ⟨some 107,none,.call false 17 [(.t 105),(.t 106)]⟩]
def parse_printer_stmt_r30 : List LOper := [
  ⟨some 108,none,.bin .add (.t 90) (.c (.int .i64 1))⟩,
  ⟨some 90,none,.mv false (.t 108)⟩]
def parse_printer_stmt_b0 : LCode := (.seq (.ops parse_printer_stmt_r25) (.seq (.cond (.t 91) .skip (.exit 1)) (.seq (.block 2 (.seq (.ops parse_printer_stmt_r26) (.seq (.seq (.ops parse_printer_stmt_r27) (.cond (.t 96) (.ops parse_printer_stmt_r28) .skip)) (.ops parse_printer_stmt_r29)))) (.ops parse_printer_stmt_r30))))
def parse_printer_stmt_f : LFunc := ⟨109,2,[],(.seq (.ops parse_printer_stmt_r0) (.seq (.seq (.ops parse_printer_stmt_r1) (.block 0 (.seq (.ops parse_printer_stmt_r2) (.cond (.t 8) (.seq (.ops parse_printer_stmt_r3) (.seq (.ops parse_printer_stmt_r4) (.cond (.t 20) (.ops parse_printer_stmt_r5) .skip))) (.seq (.ops parse_printer_stmt_r6) (.cond (.t 27) (.ops parse_printer_stmt_r7) (.seq (.ops parse_printer_stmt_r8) (.cond (.t 36) (.ops parse_printer_stmt_r9) (.seq (.ops parse_printer_stmt_r10) (.cond (.t 43) (.ops parse_printer_stmt_r11) (.seq (.ops parse_printer_stmt_r12) (.cond (.t 50) (.ops parse_printer_stmt_r13) (.seq (.ops parse_printer_stmt_r14) (.cond (.t 58) (.ops parse_printer_stmt_r15) (.seq (.ops parse_printer_stmt_r16) (.cond (.t 63) (.ops parse_printer_stmt_r17) (.seq (.ops parse_printer_stmt_r18) (.cond (.t 71) (.ops parse_printer_stmt_r19) (.seq (.ops parse_printer_stmt_r20) (.cond (.t 76) (.ops parse_printer_stmt_r21) .skip)))))))))))))))))))) (.seq (.seq (.ops parse_printer_stmt_r22) (.cond (.t 83) (.ops parse_printer_stmt_r23) .skip)) (.seq (.ops parse_printer_stmt_r24) (.block 1 (.loop [0,3,88,89,90] parse_printer_stmt_b0))))))⟩
def parse_printer_stmt_v : VFunc := ⟨parse_printer_stmt_f,false,false,false⟩
theorem parse_printer_stmt_ok : preFunc Tryz.prog ⟨[],[],[]⟩ Tryz.f29 [[0,3,88,89,90]] = some parse_printer_stmt_f := by kernel_rfl

-- slices.EqualFunc[[]gantry/parse.Stmt,[]gantry/parse.Stmt,gantry/parse.Stmt,gantry/parse.Stmt]
def slices_EqualFunc_antryparseStmt_r0 : List LOper := [
  ⟨some 6,none,.mv false (.c (.bool false))⟩]
def slices_EqualFunc_antryparseStmt_r1 : List LOper := [
  ⟨some 10,none,.mv false (.t 0)⟩,
  ⟨some 11,none,.lenL (.t 10)⟩,
  ⟨some 12,none,.mv false (.t 1)⟩,
  ⟨some 13,none,.lenL (.t 12)⟩,
  ⟨some 14,none,.bin .neq (.t 11) (.t 13)⟩]
def slices_EqualFunc_antryparseStmt_r2 : List LOper := [
  ⟨some 6,none,.mv false (.c (.bool false))⟩]
def slices_EqualFunc_antryparseStmt_r3 : List LOper := [
  ⟨some 15,none,.mv false (.t 0)⟩,
  ⟨some 16,none,.lenL (.t 15)⟩,
  ⟨some 17,none,.mv false (.c (.int .i64 0))⟩]
def slices_EqualFunc_antryparseStmt_r4 : List LOper := [
  ⟨some 18,none,.bin .lss (.t 17) (.t 16)⟩]
def slices_EqualFunc_antryparseStmt_r5 : List LOper := [
  ⟨some 19,none,.mv false (.t 17)⟩,
  ⟨some 20,none,.indexAddr 8 (.t 15) (.t 17)⟩,
  ⟨some 21,none,.load false true 8 (.t 20)⟩,
  ⟨some 8,none,.alloc [.int .i64 0,.str [],.str [],.bool false,.str [],.str [],.int .i64 0,.nilslice]⟩,
  ⟨some 7,none,.mv false (.t 19)⟩,
  ⟨none,none,.store 8 (.t 8) (.t 21)⟩]
def slices_EqualFunc_antryparseStmt_r6 : List LOper := [
  ⟨some 22,none,.mv false (.t 1)⟩,
  ⟨some 23,none,.mv false (.t 7)⟩,
  ⟨some 24,none,.indexAddr 8 (.t 22) (.t 23)⟩,
  ⟨some 25,none,.load false true 8 (.t 24)⟩,
  ⟨some 9,none,.alloc [.int .i64 0,.str [],.str [],.bool false,.str [],.str [],.int .i64 0,.nilslice]⟩,
  ⟨none,none,.store 8 (.t 9) (.t 25)⟩]
def slices_EqualFunc_antryparseStmt_r7 : List LOper := [
  ⟨some 26,none,.mv false (.t 2)⟩,
  ⟨some 27,none,.load false true 8 (.t 8)⟩,
  ⟨some 28,none,.load false true 8 (.t 9)⟩,
  ⟨some 29,none,.callv (.t 26) [(.t 27),(.t 28)]⟩,
  ⟨some 30,none,.un .not (.t 29)⟩]
def slices_EqualFunc_antryparseStmt_r8 : List LOper := [
  ⟨some 6,none,.mv false (.c (.bool false))⟩]
def slices_EqualFunc_antryparseStmt_r9 : List LOper := [
  ⟨some 31,none,.bin .add (.t 17) (.c (.int .i64 1))⟩,
  ⟨some 17,none,.mv false (.t 31)⟩]
def slices_EqualFunc_antryparseStmt_b0 : LCode := (.seq (.ops slices_EqualFunc_antryparseStmt_r4) (.seq (.cond (.t 18) .skip (.exit 0)) (.seq (.block 1 (.seq (.ops slices_EqualFunc_antryparseStmt_r5) (.seq (.ops slices_EqualFunc_antryparseStmt_r6) (.seq (.ops slices_EqualFunc_antryparseStmt_r7) (.cond (.t 30) (.seq (.ops slices_EqualFunc_antryparseStmt_r8) .ret) .skip))))) (.ops slices_EqualFunc_antryparseStmt_r9))))
def slices_EqualFunc_antryparseStmt_r10 : List LOper := [
  ⟨some 6,none,.mv false (.c (.bool true))⟩]
def slices_EqualFunc_antryparseStmt_f : LFunc := ⟨32,3,[.tmp 6],(.seq (.ops slices_EqualFunc_antryparseStmt_r0) (.seq (.seq (.ops slices_EqualFunc_antryparseStmt_r1) (.cond (.t 14) (.seq (.ops slices_EqualFunc_antryparseStmt_r2) .ret) .skip)) (.seq (.seq (.ops slices_EqualFunc_antryparseStmt_r3) (.block 0 (.loop [1,2,15,16,17] slices_EqualFunc_antryparseStmt_b0))) (.seq (.ops slices_EqualFunc_antryparseStmt_r10) .ret))))⟩
def slices_EqualFunc_antryparseStmt_v : VFunc := ⟨slices_EqualFunc_antryparseStmt_f,true,false,false⟩
theorem slices_EqualFunc_antryparseStmt_ok : preFunc Tryz.prog ⟨[],[],[]⟩ Tryz.f33 [[1,2,15,16,17]] = some slices_EqualFunc_antryparseStmt_f := by kernel_rfl

-- gantry/parse.same
def parse_same_r0 : List LOper := [
  ⟨some 2,none,.box (.t 0)⟩,
  ⟨some 3,none,.box (.t 1)⟩,
  ⟨some 4,none,.mv false (.c (.bool false))⟩]
def parse_same_r1 : List LOper := [
  ⟨some 5,none,.fieldAddr 0 (.t 2)⟩,
  ⟨some 6,none,.load false false 1 (.t 5)⟩,
  ⟨some 7,none,.fieldAddr 0 (.t 3)⟩,
  ⟨some 8,none,.load false false 1 (.t 7)⟩,
  ⟨some 9,none,.bin .eql (.t 6) (.t 8)⟩,
  ⟨some 10,none,.mv false (.t 9)⟩,
  ⟨some 11,some (10,true),.fieldAddr 1 (.t 2)⟩,
  ⟨some 12,some (10,true),.load false false 1 (.t 11)⟩,
  ⟨some 13,some (10,true),.fieldAddr 1 (.t 3)⟩,
  ⟨some 14,some (10,true),.load false false 1 (.t 13)⟩,
  ⟨some 15,some (10,true),.bin .eql (.t 12) (.t 14)⟩,
  ⟨some 16,none,.pick (.t 10) (.t 15) (.c (.bool false))⟩,
  ⟨some 17,none,.mv false (.t 16)⟩,
  ⟨some 18,some (17,true),.fieldAddr 2 (.t 2)⟩,
  ⟨some 19,some (17,true),.load false false 1 (.t 18)⟩,
  ⟨some 20,some (17,true),.fieldAddr 2 (.t 3)⟩,
  ⟨some 21,some (17,true),.load false false 1 (.t 20)⟩,
  ⟨some 22,some (17,true),.bin .eql (.t 19) (.t 21)⟩,
  ⟨some 23,none,.pick (.t 17) (.t 22) (.c (.bool false))⟩,
  ⟨some 24,none,.mv false (.t 23)⟩,
  ⟨some 25,some (24,true),.fieldAddr 3 (.t 2)⟩,
  ⟨some 26,some (24,true),.load false true 3 (.t 25)⟩,
  ⟨some 27,some (24,true),.fieldAddr 3 (.t 3)⟩,
  ⟨some 28,some (24,true),.load false true 3 (.t 27)⟩,
  ⟨some 29,some (24,true),.eqv false (.struct [.b,.s,.s]) (.t 26) (.t 28)⟩,
  ⟨some 30,none,.pick (.t 24) (.t 29) (.c (.bool false))⟩,
  ⟨some 31,none,.mv false (.t 30)⟩,
  ⟨some 32,some (31,true),.fieldAddr 6 (.t 2)⟩,
  ⟨some 33,some (31,true),.load false false 1 (.t 32)⟩,
  ⟨some 34,some (31,true),.fieldAddr 6 (.t 3)⟩,
  ⟨some 35,some (31,true),.load false false 1 (.t 34)⟩,
  ⟨some 36,some (31,true),.bin .eql (.t 33) (.t 35)⟩,
  ⟨some 37,none,.pick (.t 31) (.t 36) (.c (.bool false))⟩,
  ⟨some 38,none,.mv false (.t 37)⟩,
  ⟨some 39,some (38,true),.fieldAddr 7 (.t 2)⟩,
  ⟨some 40,some (38,true),.load false false 1 (.t 39)⟩,
  ⟨some 41,some (38,true),.fieldAddr 7 (.t 3)⟩,
  ⟨some 42,some (38,true),.load false false 1 (.t 41)⟩,
  ⟨some 43,some (38,true),.call false 55 [(.t 40),(.t 42),(.c (.func 19 []))]⟩,
  ⟨some 44,none,.pick (.t 38) (.t 43) (.c (.bool false))⟩,
  ⟨some 4,none,.mv false (.t 44)⟩]
def parse_same_f : LFunc := ⟨45,2,[.tmp 4],(.seq (.ops parse_same_r0) (.seq (.ops parse_same_r1) .ret))⟩
def parse_same_v : VFunc := ⟨parse_same_f,true,false,false⟩
theorem parse_same_ok : preFunc Tryz.prog ⟨[],[],[]⟩ Tryz.f34 [] = some parse_same_f := by kernel_rfl

-- gantry/gantkeep4.stmt
def gantkeep4_stmt_r0 : List LOper := [
  ⟨some 3,none,.box (.t 0)⟩,
  ⟨some 6,none,.alloc [.int .i64 0,.str [],.str [],.bool false,.str [],.str [],.int .i64 0,.nilslice]⟩]
def gantkeep4_stmt_r1 : List LOper := [
  ⟨some 10,none,.fieldAddr 2 (.t 3)⟩,
  ⟨some 11,none,.load false false 1 (.t 10)⟩,
  ⟨some 12,none,.mv false (.t 1)⟩,
  ⟨some 13,none,.fieldAddr 2 (.t 3)⟩,
  ⟨some 14,none,.load false false 1 (.t 13)⟩,
  ⟨some 15,none,.lenL (.t 14)⟩,
  ⟨some 16,none,.call false 21 [(.t 12),(.t 15)]⟩,
  ⟨some 17,none,.indexAddr 12 (.t 11) (.t 16)⟩,
  ⟨some 18,none,.fieldAddr 0 (.t 17)⟩,
  ⟨some 19,none,.load false false 1 (.t 18)⟩,
  ⟨some 7,none,.mv false (.t 19)⟩]
theorem gantkeep4_stmt_r1_d : drawC [0,1,0,0,8,24,60,127,255,511,1023] [
  ⟨some 10,none,.fieldAddr 2 (.t 3)⟩,
  ⟨some 11,none,.load false false 1 (.t 10)⟩,
  ⟨some 12,none,.mv false (.t 1)⟩,
  ⟨some 13,none,.fieldAddr 2 (.t 3)⟩,
  ⟨some 14,none,.load false false 1 (.t 13)⟩,
  ⟨some 15,none,.lenL (.t 14)⟩,
  ⟨some 16,none,.call false 21 [(.t 12),(.t 15)]⟩,
  ⟨some 17,none,.indexAddr 12 (.t 11) (.t 16)⟩,
  ⟨some 18,none,.fieldAddr 0 (.t 17)⟩,
  ⟨some 19,none,.load false false 1 (.t 18)⟩,
  ⟨some 7,none,.mv false (.t 19)⟩] = false ∧ drawW [0,1,0,0,8,24,60,127,255,511,1023] [
  ⟨some 10,none,.fieldAddr 2 (.t 3)⟩,
  ⟨some 11,none,.load false false 1 (.t 10)⟩,
  ⟨some 12,none,.mv false (.t 1)⟩,
  ⟨some 13,none,.fieldAddr 2 (.t 3)⟩,
  ⟨some 14,none,.load false false 1 (.t 13)⟩,
  ⟨some 15,none,.lenL (.t 14)⟩,
  ⟨some 16,none,.call false 21 [(.t 12),(.t 15)]⟩,
  ⟨some 17,none,.indexAddr 12 (.t 11) (.t 16)⟩,
  ⟨some 18,none,.fieldAddr 0 (.t 17)⟩,
  ⟨some 19,none,.load false false 1 (.t 18)⟩,
  ⟨some 7,none,.mv false (.t 19)⟩] = true := ⟨by kernel_rfl,by kernel_rfl⟩
def gantkeep4_stmt_r2 : List LOper := [
  ⟨some 20,none,.mv false (.t 1)⟩,
  ⟨some 21,none,.call false 21 [(.t 20),(.c (.int .i64 8))]⟩,
  ⟨some 8,none,.mv false (.t 21)⟩]
def gantkeep4_stmt_r3 : List LOper := [
  ⟨some 22,none,.mv false (.t 2)⟩,
  ⟨some 23,none,.bin .gtr (.t 22) (.c (.int .i64 2))⟩]
def gantkeep4_stmt_r4 : List LOper := [
  ⟨some 24,none,.mv false (.t 8)⟩,
  ⟨some 25,none,.bin .rem (.t 24) (.c (.int .i64 5))⟩,
  ⟨some 8,none,.mv false (.t 25)⟩]
def gantkeep4_stmt_r5 : List LOper := [
  ⟨some 26,none,.mv false (.t 8)⟩]
def gantkeep4_stmt_r6 : List LOper := [
  ⟨some 28,none,.bin .eql (.t 26) (.c (.int .i64 0))⟩,
  ⟨some 27,none,.mv false (.t 28)⟩]
def gantkeep4_stmt_r7 : List LOper := [
  ⟨some 29,none,.bin .eql (.t 26) (.c (.int .i64 1))⟩,
  ⟨some 27,none,.mv false (.t 29)⟩]
def gantkeep4_stmt_r8 : List LOper := [
  ⟨some 30,none,.mv false (.t 7)⟩,
  ⟨some 31,none,.fieldAddr 3 (.t 3)⟩,
  ⟨some 32,none,.load false false 1 (.t 31)⟩,
  ⟨some 33,none,.mv false (.t 1)⟩,
  ⟨some 34,none,.fieldAddr 3 (.t 3)⟩,
  ⟨some 35,none,.load false false 1 (.t 34)⟩,
  ⟨some 36,none,.lenL (.t 35)⟩,
  ⟨some 37,none,.call false 21 [(.t 33),(.t 36)]⟩,
  ⟨some 38,none,.indexAddr 14 (.t 32) (.t 37)⟩,
  ⟨some 39,none,.fieldAddr 0 (.t 38)⟩,
  ⟨some 40,none,.load false false 1 (.t 39)⟩,
  ⟨some 41,none,.build [.int .i64 0,.str [],.str [],.bool false,.str [],.str [],.int .i64 0,.nilslice] [(0,1,(.c (.int .i64 1))),(1,1,(.t 30)),(2,1,(.t 40))]⟩,
  ⟨some 9,none,.alloc [.int .i64 0,.str [],.str [],.bool false,.str [],.str [],.int .i64 0,.nilslice]⟩,
  ⟨none,none,.store 8 (.t 9) (.t 41)⟩]
theorem gantkeep4_stmt_r8_d : drawC [0,0,2,0,0,16,48,120,254,510,1022,2047,0,8191] [
  ⟨some 30,none,.mv false (.t 7)⟩,
  ⟨some 31,none,.fieldAddr 3 (.t 3)⟩,
  ⟨some 32,none,.load false false 1 (.t 31)⟩,
  ⟨some 33,none,.mv false (.t 1)⟩,
  ⟨some 34,none,.fieldAddr 3 (.t 3)⟩,
  ⟨some 35,none,.load false false 1 (.t 34)⟩,
  ⟨some 36,none,.lenL (.t 35)⟩,
  ⟨some 37,none,.call false 21 [(.t 33),(.t 36)]⟩,
  ⟨some 38,none,.indexAddr 14 (.t 32) (.t 37)⟩,
  ⟨some 39,none,.fieldAddr 0 (.t 38)⟩,
  ⟨some 40,none,.load false false 1 (.t 39)⟩,
  ⟨some 41,none,.build [.int .i64 0,.str [],.str [],.bool false,.str [],.str [],.int .i64 0,.nilslice] [(0,1,(.c (.int .i64 1))),(1,1,(.t 30)),(2,1,(.t 40))]⟩,
  ⟨some 9,none,.alloc [.int .i64 0,.str [],.str [],.bool false,.str [],.str [],.int .i64 0,.nilslice]⟩,
  ⟨none,none,.store 8 (.t 9) (.t 41)⟩] = false ∧ drawW [0,0,2,0,0,16,48,120,254,510,1022,2047,0,8191] [
  ⟨some 30,none,.mv false (.t 7)⟩,
  ⟨some 31,none,.fieldAddr 3 (.t 3)⟩,
  ⟨some 32,none,.load false false 1 (.t 31)⟩,
  ⟨some 33,none,.mv false (.t 1)⟩,
  ⟨some 34,none,.fieldAddr 3 (.t 3)⟩,
  ⟨some 35,none,.load false false 1 (.t 34)⟩,
  ⟨some 36,none,.lenL (.t 35)⟩,
  ⟨some 37,none,.call false 21 [(.t 33),(.t 36)]⟩,
  ⟨some 38,none,.indexAddr 14 (.t 32) (.t 37)⟩,
  ⟨some 39,none,.fieldAddr 0 (.t 38)⟩,
  ⟨some 40,none,.load false false 1 (.t 39)⟩,
  ⟨some 41,none,.build [.int .i64 0,.str [],.str [],.bool false,.str [],.str [],.int .i64 0,.nilslice] [(0,1,(.c (.int .i64 1))),(1,1,(.t 30)),(2,1,(.t 40))]⟩,
  ⟨some 9,none,.alloc [.int .i64 0,.str [],.str [],.bool false,.str [],.str [],.int .i64 0,.nilslice]⟩,
  ⟨none,none,.store 8 (.t 9) (.t 41)⟩] = false ∧ isX [0,0,2,0,0,16,48,120,254,510,1022,2047,0,8191] [
  ⟨some 30,none,.mv false (.t 7)⟩,
  ⟨some 31,none,.fieldAddr 3 (.t 3)⟩,
  ⟨some 32,none,.load false false 1 (.t 31)⟩,
  ⟨some 33,none,.mv false (.t 1)⟩,
  ⟨some 34,none,.fieldAddr 3 (.t 3)⟩,
  ⟨some 35,none,.load false false 1 (.t 34)⟩,
  ⟨some 36,none,.lenL (.t 35)⟩,
  ⟨some 37,none,.call false 21 [(.t 33),(.t 36)]⟩,
  ⟨some 38,none,.indexAddr 14 (.t 32) (.t 37)⟩,
  ⟨some 39,none,.fieldAddr 0 (.t 38)⟩,
  ⟨some 40,none,.load false false 1 (.t 39)⟩,
  ⟨some 41,none,.build [.int .i64 0,.str [],.str [],.bool false,.str [],.str [],.int .i64 0,.nilslice] [(0,1,(.c (.int .i64 1))),(1,1,(.t 30)),(2,1,(.t 40))]⟩,
  ⟨some 9,none,.alloc [.int .i64 0,.str [],.str [],.bool false,.str [],.str [],.int .i64 0,.nilslice]⟩,
  ⟨none,none,.store 8 (.t 9) (.t 41)⟩] = false ∧ allocPair [0,0,2,0,0,16,48,120,254,510,1022,2047,0,8191] [
  ⟨some 30,none,.mv false (.t 7)⟩,
  ⟨some 31,none,.fieldAddr 3 (.t 3)⟩,
  ⟨some 32,none,.load false false 1 (.t 31)⟩,
  ⟨some 33,none,.mv false (.t 1)⟩,
  ⟨some 34,none,.fieldAddr 3 (.t 3)⟩,
  ⟨some 35,none,.load false false 1 (.t 34)⟩,
  ⟨some 36,none,.lenL (.t 35)⟩,
  ⟨some 37,none,.call false 21 [(.t 33),(.t 36)]⟩,
  ⟨some 38,none,.indexAddr 14 (.t 32) (.t 37)⟩,
  ⟨some 39,none,.fieldAddr 0 (.t 38)⟩,
  ⟨some 40,none,.load false false 1 (.t 39)⟩,
  ⟨some 41,none,.build [.int .i64 0,.str [],.str [],.bool false,.str [],.str [],.int .i64 0,.nilslice] [(0,1,(.c (.int .i64 1))),(1,1,(.t 30)),(2,1,(.t 40))]⟩,
  ⟨some 9,none,.alloc [.int .i64 0,.str [],.str [],.bool false,.str [],.str [],.int .i64 0,.nilslice]⟩,
  ⟨none,none,.store 8 (.t 9) (.t 41)⟩] = none ∧ wrPair [0,0,2,0,0,16,48,120,254,510,1022,2047,0,8191] [
  ⟨some 30,none,.mv false (.t 7)⟩,
  ⟨some 31,none,.fieldAddr 3 (.t 3)⟩,
  ⟨some 32,none,.load false false 1 (.t 31)⟩,
  ⟨some 33,none,.mv false (.t 1)⟩,
  ⟨some 34,none,.fieldAddr 3 (.t 3)⟩,
  ⟨some 35,none,.load false false 1 (.t 34)⟩,
  ⟨some 36,none,.lenL (.t 35)⟩,
  ⟨some 37,none,.call false 21 [(.t 33),(.t 36)]⟩,
  ⟨some 38,none,.indexAddr 14 (.t 32) (.t 37)⟩,
  ⟨some 39,none,.fieldAddr 0 (.t 38)⟩,
  ⟨some 40,none,.load false false 1 (.t 39)⟩,
  ⟨some 41,none,.build [.int .i64 0,.str [],.str [],.bool false,.str [],.str [],.int .i64 0,.nilslice] [(0,1,(.c (.int .i64 1))),(1,1,(.t 30)),(2,1,(.t 40))]⟩,
  ⟨some 9,none,.alloc [.int .i64 0,.str [],.str [],.bool false,.str [],.str [],.int .i64 0,.nilslice]⟩,
  ⟨none,none,.store 8 (.t 9) (.t 41)⟩] = some (7,12) ∧ drawZ [0,0,2,0,0,16,48,120,254,510,1022,2047,0,8191] [
  ⟨some 30,none,.mv false (.t 7)⟩,
  ⟨some 31,none,.fieldAddr 3 (.t 3)⟩,
  ⟨some 32,none,.load false false 1 (.t 31)⟩,
  ⟨some 33,none,.mv false (.t 1)⟩,
  ⟨some 34,none,.fieldAddr 3 (.t 3)⟩,
  ⟨some 35,none,.load false false 1 (.t 34)⟩,
  ⟨some 36,none,.lenL (.t 35)⟩,
  ⟨some 37,none,.call false 21 [(.t 33),(.t 36)]⟩,
  ⟨some 38,none,.indexAddr 14 (.t 32) (.t 37)⟩,
  ⟨some 39,none,.fieldAddr 0 (.t 38)⟩,
  ⟨some 40,none,.load false false 1 (.t 39)⟩,
  ⟨some 41,none,.build [.int .i64 0,.str [],.str [],.bool false,.str [],.str [],.int .i64 0,.nilslice] [(0,1,(.c (.int .i64 1))),(1,1,(.t 30)),(2,1,(.t 40))]⟩,
  ⟨some 9,none,.alloc [.int .i64 0,.str [],.str [],.bool false,.str [],.str [],.int .i64 0,.nilslice]⟩,
  ⟨none,none,.store 8 (.t 9) (.t 41)⟩] 7 12 = true ∧ moveBk 7 12 [
  ⟨some 30,none,.mv false (.t 7)⟩,
  ⟨some 31,none,.fieldAddr 3 (.t 3)⟩,
  ⟨some 32,none,.load false false 1 (.t 31)⟩,
  ⟨some 33,none,.mv false (.t 1)⟩,
  ⟨some 34,none,.fieldAddr 3 (.t 3)⟩,
  ⟨some 35,none,.load false false 1 (.t 34)⟩,
  ⟨some 36,none,.lenL (.t 35)⟩,
  ⟨some 37,none,.call false 21 [(.t 33),(.t 36)]⟩,
  ⟨some 38,none,.indexAddr 14 (.t 32) (.t 37)⟩,
  ⟨some 39,none,.fieldAddr 0 (.t 38)⟩,
  ⟨some 40,none,.load false false 1 (.t 39)⟩,
  ⟨some 41,none,.build [.int .i64 0,.str [],.str [],.bool false,.str [],.str [],.int .i64 0,.nilslice] [(0,1,(.c (.int .i64 1))),(1,1,(.t 30)),(2,1,(.t 40))]⟩,
  ⟨some 9,none,.alloc [.int .i64 0,.str [],.str [],.bool false,.str [],.str [],.int .i64 0,.nilslice]⟩,
  ⟨none,none,.store 8 (.t 9) (.t 41)⟩] = [
  ⟨some 30,none,.mv false (.t 7)⟩,
  ⟨some 31,none,.fieldAddr 3 (.t 3)⟩,
  ⟨some 32,none,.load false false 1 (.t 31)⟩,
  ⟨some 33,none,.mv false (.t 1)⟩,
  ⟨some 34,none,.fieldAddr 3 (.t 3)⟩,
  ⟨some 35,none,.load false false 1 (.t 34)⟩,
  ⟨some 36,none,.lenL (.t 35)⟩,
  ⟨some 9,none,.alloc [.int .i64 0,.str [],.str [],.bool false,.str [],.str [],.int .i64 0,.nilslice]⟩,
  ⟨some 37,none,.call false 21 [(.t 33),(.t 36)]⟩,
  ⟨some 38,none,.indexAddr 14 (.t 32) (.t 37)⟩,
  ⟨some 39,none,.fieldAddr 0 (.t 38)⟩,
  ⟨some 40,none,.load false false 1 (.t 39)⟩,
  ⟨some 41,none,.build [.int .i64 0,.str [],.str [],.bool false,.str [],.str [],.int .i64 0,.nilslice] [(0,1,(.c (.int .i64 1))),(1,1,(.t 30)),(2,1,(.t 40))]⟩,
  ⟨none,none,.store 8 (.t 9) (.t 41)⟩] := ⟨by kernel_rfl,by kernel_rfl,by kernel_rfl,by kernel_rfl,by kernel_rfl,by kernel_rfl,by kernel_rfl⟩
def gantkeep4_stmt_r9 : List LOper := [
  ⟨some 42,none,.mv false (.t 1)⟩,
  ⟨some 43,none,.call false 21 [(.t 42),(.c (.int .i64 3))]⟩,
  ⟨some 44,none,.bin .eql (.t 43) (.c (.int .i64 0))⟩]
def gantkeep4_stmt_r10 : List LOper := [
  ⟨some 45,none,.mv false (.t 1)⟩,
  ⟨some 46,none,.call false 21 [(.t 45),(.c (.int .i64 5))]⟩,
  ⟨some 47,none,.bin .add (.c (.int .i64 4)) (.t 46)⟩,
  ⟨some 48,none,.call false 22 [(.c (.int .i64 1)),(.t 47)]⟩,
  ⟨some 49,none,.fieldAddr 3 (.t 9)⟩,
  ⟨none,none,.store 3 (.t 49) (.t 48)⟩]
def gantkeep4_stmt_r11 : List LOper := [
  ⟨some 50,none,.load false true 8 (.t 9)⟩,
  ⟨none,none,.store 8 (.t 6) (.t 50)⟩]
def gantkeep4_stmt_r12 : List LOper := [
  ⟨some 52,none,.bin .eql (.t 26) (.c (.int .i64 2))⟩,
  ⟨some 51,none,.mv false (.t 52)⟩]
def gantkeep4_stmt_r13 : List LOper := [
  ⟨some 53,none,.mv false (.t 7)⟩,
  ⟨some 54,none,.fieldAddr 0 (.t 3)⟩,
  ⟨some 55,none,.load false false 1 (.t 54)⟩,
  ⟨some 56,none,.mv false (.t 1)⟩,
  ⟨some 57,none,.fieldAddr 0 (.t 3)⟩,
  ⟨some 58,none,.load false false 1 (.t 57)⟩,
  ⟨some 59,none,.lenL (.t 58)⟩,
  ⟨some 60,none,.call false 21 [(.t 56),(.t 59)]⟩,
  ⟨some 61,none,.indexAddr 12 (.t 55) (.t 60)⟩,
  ⟨some 62,none,.fieldAddr 0 (.t 61)⟩,
  ⟨some 63,none,.load false false 1 (.t 62)⟩,
  ⟨some 64,none,.build [.int .i64 0,.str [],.str [],.bool false,.str [],.str [],.int .i64 0,.nilslice] [(0,1,(.c (.int .i64 2))),(1,1,(.t 53)),(2,1,(.t 63))]⟩,
  ⟨none,none,.store 8 (.t 6) (.t 64)⟩]
theorem gantkeep4_stmt_r13_d : drawC [0,0,2,0,0,16,48,120,254,510,1022,2047,4095] [
  ⟨some 53,none,.mv false (.t 7)⟩,
  ⟨some 54,none,.fieldAddr 0 (.t 3)⟩,
  ⟨some 55,none,.load false false 1 (.t 54)⟩,
  ⟨some 56,none,.mv false (.t 1)⟩,
  ⟨some 57,none,.fieldAddr 0 (.t 3)⟩,
  ⟨some 58,none,.load false false 1 (.t 57)⟩,
  ⟨some 59,none,.lenL (.t 58)⟩,
  ⟨some 60,none,.call false 21 [(.t 56),(.t 59)]⟩,
  ⟨some 61,none,.indexAddr 12 (.t 55) (.t 60)⟩,
  ⟨some 62,none,.fieldAddr 0 (.t 61)⟩,
  ⟨some 63,none,.load false false 1 (.t 62)⟩,
  ⟨some 64,none,.build [.int .i64 0,.str [],.str [],.bool false,.str [],.str [],.int .i64 0,.nilslice] [(0,1,(.c (.int .i64 2))),(1,1,(.t 53)),(2,1,(.t 63))]⟩,
  ⟨none,none,.store 8 (.t 6) (.t 64)⟩] = false ∧ drawW [0,0,2,0,0,16,48,120,254,510,1022,2047,4095] [
  ⟨some 53,none,.mv false (.t 7)⟩,
  ⟨some 54,none,.fieldAddr 0 (.t 3)⟩,
  ⟨some 55,none,.load false false 1 (.t 54)⟩,
  ⟨some 56,none,.mv false (.t 1)⟩,
  ⟨some 57,none,.fieldAddr 0 (.t 3)⟩,
  ⟨some 58,none,.load false false 1 (.t 57)⟩,
  ⟨some 59,none,.lenL (.t 58)⟩,
  ⟨some 60,none,.call false 21 [(.t 56),(.t 59)]⟩,
  ⟨some 61,none,.indexAddr 12 (.t 55) (.t 60)⟩,
  ⟨some 62,none,.fieldAddr 0 (.t 61)⟩,
  ⟨some 63,none,.load false false 1 (.t 62)⟩,
  ⟨some 64,none,.build [.int .i64 0,.str [],.str [],.bool false,.str [],.str [],.int .i64 0,.nilslice] [(0,1,(.c (.int .i64 2))),(1,1,(.t 53)),(2,1,(.t 63))]⟩,
  ⟨none,none,.store 8 (.t 6) (.t 64)⟩] = true := ⟨by kernel_rfl,by kernel_rfl⟩
def gantkeep4_stmt_r14 : List LOper := [
  ⟨some 66,none,.bin .eql (.t 26) (.c (.int .i64 3))⟩,
  ⟨some 65,none,.mv false (.t 66)⟩]
def gantkeep4_stmt_r15 : List LOper := [
  ⟨some 67,none,.mv false (.t 7)⟩,
  ⟨some 68,none,.build [.int .i64 0,.str [],.str [],.bool false,.str [],.str [],.int .i64 0,.nilslice] [(0,1,(.c (.int .i64 4))),(1,1,(.t 67))]⟩,
  ⟨none,none,.store 8 (.t 6) (.t 68)⟩]
def gantkeep4_stmt_r16 : List LOper := [
  ⟨some 70,none,.bin .eql (.t 26) (.c (.int .i64 4))⟩,
  ⟨some 69,none,.mv false (.t 70)⟩]
def gantkeep4_stmt_r17 : List LOper := [
  ⟨some 71,none,.mv false (.t 1)⟩,
  ⟨some 72,none,.call false 21 [(.t 71),(.c (.int .i64 2))]⟩,
  ⟨some 73,none,.bin .eql (.t 72) (.c (.int .i64 0))⟩]
def gantkeep4_stmt_r18 : List LOper := [
  ⟨some 74,none,.mv false (.t 1)⟩,
  ⟨some 75,none,.call false 21 [(.t 74),(.c (.int .i64 3))]⟩,
  ⟨some 76,none,.bin .add (.c (.int .i64 1)) (.t 75)⟩,
  ⟨some 77,none,.build [.int .i64 0,.str [],.str [],.bool false,.str [],.str [],.int .i64 0,.nilslice] [(0,1,(.c (.int .i64 5))),(6,1,(.t 76))]⟩,
  ⟨none,none,.store 8 (.t 6) (.t 77)⟩]
def gantkeep4_stmt_r19 : List LOper := [
  ⟨some 78,none,.fieldAddr 0 (.t 3)⟩,
  ⟨some 79,none,.load false false 1 (.t 78)⟩,
  ⟨some 80,none,.mv false (.t 1)⟩,
  ⟨some 81,none,.fieldAddr 0 (.t 3)⟩,
  ⟨some 82,none,.load false false 1 (.t 81)⟩,
  ⟨some 83,none,.lenL (.t 82)⟩,
  ⟨some 84,none,.call false 21 [(.t 80),(.t 83)]⟩,
  ⟨some 85,none,.indexAddr 12 (.t 79) (.t 84)⟩,
  ⟨some 86,none,.fieldAddr 0 (.t 85)⟩,
  ⟨some 87,none,.load false false 1 (.t 86)⟩,
  ⟨some 88,none,.build [.int .i64 0,.str [],.str [],.bool false,.str [],.str [],.int .i64 0,.nilslice] [(0,1,(.c (.int .i64 3))),(1,1,(.t 87))]⟩,
  ⟨none,none,.store 8 (.t 6) (.t 88)⟩]
theorem gantkeep4_stmt_r19_d : drawC [0,1,0,0,8,24,60,127,255,511,1023,2047] [
  ⟨some 78,none,.fieldAddr 0 (.t 3)⟩,
  ⟨some 79,none,.load false false 1 (.t 78)⟩,
  ⟨some 80,none,.mv false (.t 1)⟩,
  ⟨some 81,none,.fieldAddr 0 (.t 3)⟩,
  ⟨some 82,none,.load false false 1 (.t 81)⟩,
  ⟨some 83,none,.lenL (.t 82)⟩,
  ⟨some 84,none,.call false 21 [(.t 80),(.t 83)]⟩,
  ⟨some 85,none,.indexAddr 12 (.t 79) (.t 84)⟩,
  ⟨some 86,none,.fieldAddr 0 (.t 85)⟩,
  ⟨some 87,none,.load false false 1 (.t 86)⟩,
  ⟨some 88,none,.build [.int .i64 0,.str [],.str [],.bool false,.str [],.str [],.int .i64 0,.nilslice] [(0,1,(.c (.int .i64 3))),(1,1,(.t 87))]⟩,
  ⟨none,none,.store 8 (.t 6) (.t 88)⟩] = false ∧ drawW [0,1,0,0,8,24,60,127,255,511,1023,2047] [
  ⟨some 78,none,.fieldAddr 0 (.t 3)⟩,
  ⟨some 79,none,.load false false 1 (.t 78)⟩,
  ⟨some 80,none,.mv false (.t 1)⟩,
  ⟨some 81,none,.fieldAddr 0 (.t 3)⟩,
  ⟨some 82,none,.load false false 1 (.t 81)⟩,
  ⟨some 83,none,.lenL (.t 82)⟩,
  ⟨some 84,none,.call false 21 [(.t 80),(.t 83)]⟩,
  ⟨some 85,none,.indexAddr 12 (.t 79) (.t 84)⟩,
  ⟨some 86,none,.fieldAddr 0 (.t 85)⟩,
  ⟨some 87,none,.load false false 1 (.t 86)⟩,
  ⟨some 88,none,.build [.int .i64 0,.str [],.str [],.bool false,.str [],.str [],.int .i64 0,.nilslice] [(0,1,(.c (.int .i64 3))),(1,1,(.t 87))]⟩,
  ⟨none,none,.store 8 (.t 6) (.t 88)⟩] = true := ⟨by kernel_rfl,by kernel_rfl⟩
def gantkeep4_stmt_r20 : List LOper := [
  ⟨some 90,none,.bin .eql (.t 26) (.c (.int .i64 5))⟩,
  ⟨some 89,none,.mv false (.t 90)⟩]
def gantkeep4_stmt_r21 : List LOper := [
  ⟨some 91,none,.load false true 8 (.t 3)⟩,
  ⟨some 92,none,.mv false (.t 1)⟩,
  ⟨some 93,none,.mv false (.t 2)⟩,
  ⟨some 94,none,.bin .add (.t 93) (.c (.int .i64 1))⟩,
  ⟨some 95,none,.call false 20 [(.t 91),(.t 92),(.t 94)]⟩,
  ⟨some 96,none,.load false true 8 (.t 3)⟩,
  ⟨some 97,none,.mv false (.t 1)⟩,
  ⟨some 98,none,.mv false (.t 2)⟩,
  ⟨some 99,none,.bin .add (.t 98) (.c (.int .i64 1))⟩,
  ⟨some 100,none,.call false 20 [(.t 96),(.t 97),(.t 99)]⟩,
  ⟨some 101,none,.bslice false 2 1 [.nilslice,.nilslice] [(0,1,(.t 95)),(1,1,(.t 100))]⟩,
  ⟨some 102,none,.build [.int .i64 0,.str [],.str [],.bool false,.str [],.str [],.int .i64 0,.nilslice] [(0,1,(.c (.int .i64 8))),(7,1,(.t 101))]⟩,
  ⟨none,none,.store 8 (.t 6) (.t 102)⟩]
theorem gantkeep4_stmt_r21_d : drawC [0,0,0,4,15,0,0,0,128,511,1023,2047,4095] [
  ⟨some 91,none,.load false true 8 (.t 3)⟩,
  ⟨some 92,none,.mv false (.t 1)⟩,
  ⟨some 93,none,.mv false (.t 2)⟩,
  ⟨some 94,none,.bin .add (.t 93) (.c (.int .i64 1))⟩,
  ⟨some 95,none,.call false 20 [(.t 91),(.t 92),(.t 94)]⟩,
  ⟨some 96,none,.load false true 8 (.t 3)⟩,
  ⟨some 97,none,.mv false (.t 1)⟩,
  ⟨some 98,none,.mv false (.t 2)⟩,
  ⟨some 99,none,.bin .add (.t 98) (.c (.int .i64 1))⟩,
  ⟨some 100,none,.call false 20 [(.t 96),(.t 97),(.t 99)]⟩,
  ⟨some 101,none,.bslice false 2 1 [.nilslice,.nilslice] [(0,1,(.t 95)),(1,1,(.t 100))]⟩,
  ⟨some 102,none,.build [.int .i64 0,.str [],.str [],.bool false,.str [],.str [],.int .i64 0,.nilslice] [(0,1,(.c (.int .i64 8))),(7,1,(.t 101))]⟩,
  ⟨none,none,.store 8 (.t 6) (.t 102)⟩] = false ∧ drawW [0,0,0,4,15,0,0,0,128,511,1023,2047,4095] [
  ⟨some 91,none,.load false true 8 (.t 3)⟩,
  ⟨some 92,none,.mv false (.t 1)⟩,
  ⟨some 93,none,.mv false (.t 2)⟩,
  ⟨some 94,none,.bin .add (.t 93) (.c (.int .i64 1))⟩,
  ⟨some 95,none,.call false 20 [(.t 91),(.t 92),(.t 94)]⟩,
  ⟨some 96,none,.load false true 8 (.t 3)⟩,
  ⟨some 97,none,.mv false (.t 1)⟩,
  ⟨some 98,none,.mv false (.t 2)⟩,
  ⟨some 99,none,.bin .add (.t 98) (.c (.int .i64 1))⟩,
  ⟨some 100,none,.call false 20 [(.t 96),(.t 97),(.t 99)]⟩,
  ⟨some 101,none,.bslice false 2 1 [.nilslice,.nilslice] [(0,1,(.t 95)),(1,1,(.t 100))]⟩,
  ⟨some 102,none,.build [.int .i64 0,.str [],.str [],.bool false,.str [],.str [],.int .i64 0,.nilslice] [(0,1,(.c (.int .i64 8))),(7,1,(.t 101))]⟩,
  ⟨none,none,.store 8 (.t 6) (.t 102)⟩] = true := ⟨by kernel_rfl,by kernel_rfl⟩
def gantkeep4_stmt_r22 : List LOper := [
  ⟨some 104,none,.bin .eql (.t 26) (.c (.int .i64 6))⟩,
  ⟨some 103,none,.mv false (.t 104)⟩]
def gantkeep4_stmt_r23 : List LOper := [
  ⟨some 105,none,.load false true 8 (.t 3)⟩,
  ⟨some 106,none,.mv false (.t 1)⟩,
  ⟨some 107,none,.mv false (.t 2)⟩,
  ⟨some 108,none,.bin .add (.t 107) (.c (.int .i64 1))⟩,
  ⟨some 109,none,.call false 20 [(.t 105),(.t 106),(.t 108)]⟩,
  ⟨some 110,none,.load false true 8 (.t 3)⟩,
  ⟨some 111,none,.mv false (.t 1)⟩,
  ⟨some 112,none,.mv false (.t 2)⟩,
  ⟨some 113,none,.bin .add (.t 112) (.c (.int .i64 1))⟩,
  ⟨some 114,none,.call false 20 [(.t 110),(.t 111),(.t 113)]⟩,
  ⟨some 115,none,.bslice false 2 1 [.nilslice,.nilslice] [(0,1,(.t 109)),(1,1,(.t 114))]⟩,
  ⟨some 116,none,.build [.int .i64 0,.str [],.str [],.bool false,.str [],.str [],.int .i64 0,.nilslice] [(0,1,(.c (.int .i64 9))),(7,1,(.t 115))]⟩,
  ⟨none,none,.store 8 (.t 6) (.t 116)⟩]
theorem gantkeep4_stmt_r23_d : drawC [0,0,0,4,15,0,0,0,128,511,1023,2047,4095] [
  ⟨some 105,none,.load false true 8 (.t 3)⟩,
  ⟨some 106,none,.mv false (.t 1)⟩,
  ⟨some 107,none,.mv false (.t 2)⟩,
  ⟨some 108,none,.bin .add (.t 107) (.c (.int .i64 1))⟩,
  ⟨some 109,none,.call false 20 [(.t 105),(.t 106),(.t 108)]⟩,
  ⟨some 110,none,.load false true 8 (.t 3)⟩,
  ⟨some 111,none,.mv false (.t 1)⟩,
  ⟨some 112,none,.mv false (.t 2)⟩,
  ⟨some 113,none,.bin .add (.t 112) (.c (.int .i64 1))⟩,
  ⟨some 114,none,.call false 20 [(.t 110),(.t 111),(.t 113)]⟩,
  ⟨some 115,none,.bslice false 2 1 [.nilslice,.nilslice] [(0,1,(.t 109)),(1,1,(.t 114))]⟩,
  ⟨some 116,none,.build [.int .i64 0,.str [],.str [],.bool false,.str [],.str [],.int .i64 0,.nilslice] [(0,1,(.c (.int .i64 9))),(7,1,(.t 115))]⟩,
  ⟨none,none,.store 8 (.t 6) (.t 116)⟩] = false ∧ drawW [0,0,0,4,15,0,0,0,128,511,1023,2047,4095] [
  ⟨some 105,none,.load false true 8 (.t 3)⟩,
  ⟨some 106,none,.mv false (.t 1)⟩,
  ⟨some 107,none,.mv false (.t 2)⟩,
  ⟨some 108,none,.bin .add (.t 107) (.c (.int .i64 1))⟩,
  ⟨some 109,none,.call false 20 [(.t 105),(.t 106),(.t 108)]⟩,
  ⟨some 110,none,.load false true 8 (.t 3)⟩,
  ⟨some 111,none,.mv false (.t 1)⟩,
  ⟨some 112,none,.mv false (.t 2)⟩,
  ⟨some 113,none,.bin .add (.t 112) (.c (.int .i64 1))⟩,
  ⟨some 114,none,.call false 20 [(.t 110),(.t 111),(.t 113)]⟩,
  ⟨some 115,none,.bslice false 2 1 [.nilslice,.nilslice] [(0,1,(.t 109)),(1,1,(.t 114))]⟩,
  ⟨some 116,none,.build [.int .i64 0,.str [],.str [],.bool false,.str [],.str [],.int .i64 0,.nilslice] [(0,1,(.c (.int .i64 9))),(7,1,(.t 115))]⟩,
  ⟨none,none,.store 8 (.t 6) (.t 116)⟩] = true := ⟨by kernel_rfl,by kernel_rfl⟩
def gantkeep4_stmt_r24 : List LOper := [
  ⟨some 117,none,.mv false (.t 1)⟩,
  ⟨some 118,none,.call false 21 [(.t 117),(.c (.int .i64 2))]⟩,
  ⟨some 119,none,.bin .eql (.t 118) (.c (.int .i64 0))⟩]
def gantkeep4_stmt_r25 : List LOper := [
  ⟨some 120,none,.load false true 8 (.t 3)⟩,
  ⟨some 121,none,.mv false (.t 1)⟩,
  ⟨some 122,none,.mv false (.t 2)⟩,
  ⟨some 123,none,.bin .add (.t 122) (.c (.int .i64 1))⟩,
  ⟨some 124,none,.call false 20 [(.t 120),(.t 121),(.t 123)]⟩,
  ⟨some 125,none,.bslice false 1 1 [.nilslice] [(0,1,(.t 124))]⟩,
  ⟨some 126,none,.build [.int .i64 0,.str [],.str [],.bool false,.str [],.str [],.int .i64 0,.nilslice] [(0,1,(.c (.int .i64 6))),(7,1,(.t 125))]⟩,
  ⟨none,none,.store 8 (.t 6) (.t 126)⟩]
def gantkeep4_stmt_r26 : List LOper := [
  ⟨some 127,none,.mv false (.t 1)⟩,
  ⟨some 128,none,.call false 21 [(.t 127),(.c (.int .i64 2))]⟩,
  ⟨some 129,none,.bin .add (.c (.int .i64 1)) (.t 128)⟩,
  ⟨some 130,none,.load false true 8 (.t 3)⟩,
  ⟨some 131,none,.mv false (.t 1)⟩,
  ⟨some 132,none,.mv false (.t 2)⟩,
  ⟨some 133,none,.bin .add (.t 132) (.c (.int .i64 1))⟩,
  ⟨some 134,none,.call false 20 [(.t 130),(.t 131),(.t 133)]⟩,
  ⟨some 135,none,.bslice false 1 1 [.nilslice] [(0,1,(.t 134))]⟩,
  ⟨some 136,none,.build [.int .i64 0,.str [],.str [],.bool false,.str [],.str [],.int .i64 0,.nilslice] [(0,1,(.c (.int .i64 7))),(6,1,(.t 129)),(7,1,(.t 135))]⟩,
  ⟨none,none,.store 8 (.t 6) (.t 136)⟩]
theorem gantkeep4_stmt_r26_d : drawC [0,1,3,0,0,0,32,123,251,511,1023] [
  ⟨some 127,none,.mv false (.t 1)⟩,
  ⟨some 128,none,.call false 21 [(.t 127),(.c (.int .i64 2))]⟩,
  ⟨some 129,none,.bin .add (.c (.int .i64 1)) (.t 128)⟩,
  ⟨some 130,none,.load false true 8 (.t 3)⟩,
  ⟨some 131,none,.mv false (.t 1)⟩,
  ⟨some 132,none,.mv false (.t 2)⟩,
  ⟨some 133,none,.bin .add (.t 132) (.c (.int .i64 1))⟩,
  ⟨some 134,none,.call false 20 [(.t 130),(.t 131),(.t 133)]⟩,
  ⟨some 135,none,.bslice false 1 1 [.nilslice] [(0,1,(.t 134))]⟩,
  ⟨some 136,none,.build [.int .i64 0,.str [],.str [],.bool false,.str [],.str [],.int .i64 0,.nilslice] [(0,1,(.c (.int .i64 7))),(6,1,(.t 129)),(7,1,(.t 135))]⟩,
  ⟨none,none,.store 8 (.t 6) (.t 136)⟩] = false ∧ drawW [0,1,3,0,0,0,32,123,251,511,1023] [
  ⟨some 127,none,.mv false (.t 1)⟩,
  ⟨some 128,none,.call false 21 [(.t 127),(.c (.int .i64 2))]⟩,
  ⟨some 129,none,.bin .add (.c (.int .i64 1)) (.t 128)⟩,
  ⟨some 130,none,.load false true 8 (.t 3)⟩,
  ⟨some 131,none,.mv false (.t 1)⟩,
  ⟨some 132,none,.mv false (.t 2)⟩,
  ⟨some 133,none,.bin .add (.t 132) (.c (.int .i64 1))⟩,
  ⟨some 134,none,.call false 20 [(.t 130),(.t 131),(.t 133)]⟩,
  ⟨some 135,none,.bslice false 1 1 [.nilslice] [(0,1,(.t 134))]⟩,
  ⟨some 136,none,.build [.int .i64 0,.str [],.str [],.bool false,.str [],.str [],.int .i64 0,.nilslice] [(0,1,(.c (.int .i64 7))),(6,1,(.t 129)),(7,1,(.t 135))]⟩,
  ⟨none,none,.store 8 (.t 6) (.t 136)⟩] = true := ⟨by kernel_rfl,by kernel_rfl⟩
def gantkeep4_stmt_f : LFunc := ⟨137,3,[.cell 6 true 8],(.seq (.ops gantkeep4_stmt_r0) (.seq (.dops [0,1,0,0,8,24,60,127,255,511,1023] gantkeep4_stmt_r1) (.seq (.ops gantkeep4_stmt_r2) (.seq (.seq (.ops gantkeep4_stmt_r3) (.cond (.t 23) (.ops gantkeep4_stmt_r4) .skip)) (.seq (.seq (.ops gantkeep4_stmt_r5) (.block 0 (.seq (.seq (.ops gantkeep4_stmt_r6) (.cond (.t 27) .skip (.ops gantkeep4_stmt_r7))) (.cond (.t 27) (.seq (.dops [0,0,2,0,0,16,48,120,254,510,1022,2047,0,8191] gantkeep4_stmt_r8) (.seq (.seq (.ops gantkeep4_stmt_r9) (.cond (.t 44) (.ops gantkeep4_stmt_r10) .skip)) (.seq (.ops gantkeep4_stmt_r11) .ret))) (.seq (.ops gantkeep4_stmt_r12) (.cond (.t 51) (.seq (.dops [0,0,2,0,0,16,48,120,254,510,1022,2047,4095] gantkeep4_stmt_r13) .ret) (.seq (.ops gantkeep4_stmt_r14) (.cond (.t 65) (.seq (.ops gantkeep4_stmt_r15) .ret) (.seq (.ops gantkeep4_stmt_r16) (.cond (.t 69) (.seq (.seq (.ops gantkeep4_stmt_r17) (.cond (.t 73) (.seq (.ops gantkeep4_stmt_r18) .ret) .skip)) (.seq (.dops [0,1,0,0,8,24,60,127,255,511,1023,2047] gantkeep4_stmt_r19) .ret)) (.seq (.ops gantkeep4_stmt_r20) (.cond (.t 89) (.seq (.dops [0,0,0,4,15,0,0,0,128,511,1023,2047,4095] gantkeep4_stmt_r21) .ret) (.seq (.ops gantkeep4_stmt_r22) (.cond (.t 103) (.seq (.dops [0,0,0,4,15,0,0,0,128,511,1023,2047,4095] gantkeep4_stmt_r23) .ret) .skip)))))))))))))) (.seq (.seq (.ops gantkeep4_stmt_r24) (.cond (.t 119) (.seq (.ops gantkeep4_stmt_r25) .ret) .skip)) (.seq (.dops [0,1,3,0,0,0,32,123,251,511,1023] gantkeep4_stmt_r26) .ret)))))))⟩
def gantkeep4_stmt_v : VFunc := ⟨gantkeep4_stmt_f,false,false,false⟩
theorem gantkeep4_stmt_ok : preFunc Tryz.prog ⟨[],[],[]⟩ Tryz.f35 [] = some gantkeep4_stmt_f := by kernel_rfl

-- gantry/gantmake.Below
def gantmake_Below_r0 : List LOper := [
  ⟨some 4,none,.mv false (.c (.int .i64 0))⟩]
def gantmake_Below_r1 : List LOper := [
  ⟨some 5,none,.mv false (.t 0)⟩,
  ⟨some 6,none,.mv false (.t 1)⟩,
  ⟨some 7,none,.bin .rem (.t 5) (.t 6)⟩,
  ⟨some 0,none,.mv false (.t 7)⟩]
def gantmake_Below_r2 : List LOper := [
  ⟨some 8,none,.mv false (.t 0)⟩,
  ⟨some 9,none,.bin .lss (.t 8) (.c (.int .i64 0))⟩]
def gantmake_Below_r3 : List LOper := [
  ⟨some 10,none,.mv false (.t 0)⟩,
  ⟨some 11,none,.mv false (.t 1)⟩,
  ⟨some 12,none,.bin .add (.t 10) (.t 11)⟩,
  ⟨some 0,none,.mv false (.t 12)⟩]
def gantmake_Below_r4 : List LOper := [
  ⟨some 13,none,.mv false (.t 0)⟩,
  ⟨some 4,none,.mv false (.t 13)⟩]
def gantmake_Below_f : LFunc := ⟨14,2,[.tmp 4],(.seq (.ops gantmake_Below_r0) (.seq (.ops gantmake_Below_r1) (.seq (.seq (.ops gantmake_Below_r2) (.cond (.t 9) (.ops gantmake_Below_r3) .skip)) (.seq (.ops gantmake_Below_r4) .ret))))⟩
def gantmake_Below_v : VFunc := ⟨gantmake_Below_f,true,false,false⟩
theorem gantmake_Below_ok : preFunc Tryz.prog ⟨[],[],[]⟩ Tryz.f36 [] = some gantmake_Below_f := by kernel_rfl

-- gantry/gantmake.digits
def gantmake_digits_r0 : List LOper := [
  ⟨some 2,none,.mv false (.c (.str []))⟩]
def gantmake_digits_r1 : List LOper := [
  ⟨some 3,none,.mv true (.c (.nilslice))⟩]
def gantmake_digits_r2 : List LOper := [
  ⟨some 4,none,.mv false (.t 0)⟩,
  ⟨some 5,none,.bin .gtr (.t 4) (.c (.int .i64 0))⟩]
def gantmake_digits_r3 : List LOper := [
  ⟨some 8,none,.mv true (.t 3)⟩,
  ⟨some 9,none,.mv false (.t 0)⟩,
  ⟨some 10,none,.bin .rem (.t 9) (.c (.int .i64 256))⟩,
  ⟨some 11,none,.conv .u8 (.t 10)⟩,
  ⟨some 12,none,.bslice false 1 1 [.int .u8 0] [(0,1,(.t 11))]⟩,
  ⟨some 13,none,.append true 1 1 (.t 8) (.t 12)⟩,
  ⟨some 3,none,.mv true (.t 13)⟩]
def gantmake_digits_r4 : List LOper := [
  ⟨some 6,none,.mv false (.t 0)⟩,
  ⟨some 7,none,.bin .quo (.t 6) (.c (.int .i64 256))⟩,
  ⟨some 0,none,.mv false (.t 7)⟩]
def gantmake_digits_b0 : LCode := (.seq (.seq (.ops gantmake_digits_r2) (.cond (.t 5) .skip (.exit 0))) (.seq (.block 1 (.ops gantmake_digits_r3)) (.ops gantmake_digits_r4)))
def gantmake_digits_r5 : List LOper := [
  ⟨some 14,none,.mv false (.t 3)⟩,
  ⟨some 15,none,.call false 56 [(.t 14)]⟩]
def gantmake_digits_r6 : List LOper := [
  ⟨some 16,none,.mv false (.t 3)⟩,
  ⟨some 17,none,.b2s (.t 16)⟩,
  ⟨some 2,none,.mv false (.t 17)⟩]
def gantmake_digits_f : LFunc := ⟨18,1,[.tmp 2],(.seq (.ops gantmake_digits_r0) (.seq (.ops gantmake_digits_r1) (.seq (.block 0 (.loop [0,3] gantmake_digits_b0)) (.seq (.ops gantmake_digits_r5) (.seq (.ops gantmake_digits_r6) .ret)))))⟩
def gantmake_digits_v : VFunc := ⟨gantmake_digits_f,true,false,false⟩
theorem gantmake_digits_ok : preFunc Tryz.prog ⟨[3,8,13],[],[]⟩ Tryz.f37 [[0,3]] = some gantmake_digits_f := by kernel_rfl

-- gantry/word.blank
def word_blank_r0 : List LOper := [
  ⟨some 2,none,.mv false (.c (.bool false))⟩]
def word_blank_r1 : List LOper := [
  ⟨some 3,none,.mv false (.t 0)⟩,
  ⟨some 4,none,.bin .eql (.t 3) (.c (.int .u8 32))⟩,
  ⟨some 5,none,.mv false (.t 4)⟩,
  ⟨some 6,some (5,false),.mv false (.t 0)⟩,
  ⟨some 7,some (5,false),.bin .eql (.t 6) (.c (.int .u8 10))⟩,
  ⟨some 8,none,.pick (.t 5) (.c (.bool true)) (.t 7)⟩,
  ⟨some 2,none,.mv false (.t 8)⟩]
def word_blank_f : LFunc := ⟨9,1,[.tmp 2],(.seq (.ops word_blank_r0) (.seq (.ops word_blank_r1) .ret))⟩
def word_blank_v : VFunc := ⟨word_blank_f,true,false,false⟩
theorem word_blank_ok : preFunc Tryz.prog ⟨[],[],[]⟩ Tryz.f38 [] = some word_blank_f := by kernel_rfl

-- gantry/word.letter
def word_letter_r0 : List LOper := [
  ⟨some 2,none,.mv false (.c (.bool false))⟩]
def word_letter_r1 : List LOper := [
  ⟨some 3,none,.mv false (.t 0)⟩,
  ⟨some 4,none,.bin .geq (.t 3) (.c (.int .u8 97))⟩,
  ⟨some 5,none,.mv false (.t 4)⟩,
  ⟨some 6,some (5,true),.mv false (.t 0)⟩,
  ⟨some 7,some (5,true),.bin .leq (.t 6) (.c (.int .u8 122))⟩,
  ⟨some 8,none,.pick (.t 5) (.t 7) (.c (.bool false))⟩,
  ⟨some 2,none,.mv false (.t 8)⟩]
def word_letter_f : LFunc := ⟨9,1,[.tmp 2],(.seq (.ops word_letter_r0) (.seq (.ops word_letter_r1) .ret))⟩
def word_letter_v : VFunc := ⟨word_letter_f,true,false,false⟩
theorem word_letter_ok : preFunc Tryz.prog ⟨[],[],[]⟩ Tryz.f39 [] = some word_letter_f := by kernel_rfl

-- gantry/word.run
def word_run_r0 : List LOper := [
  ⟨some 6,none,.mv false (.c (.int .i64 0))⟩]
def word_run_r1 : List LOper := [
  ⟨some 7,none,.mv false (.t 1)⟩,
  ⟨some 8,none,.mv false (.t 0)⟩,
  ⟨some 9,none,.lenS (.t 8)⟩,
  ⟨some 10,none,.bin .lss (.t 7) (.t 9)⟩,
  ⟨some 11,none,.mv false (.t 10)⟩,
  ⟨some 12,some (11,true),.mv false (.t 2)⟩,
  ⟨some 13,some (11,true),.mv false (.t 0)⟩,
  ⟨some 14,some (11,true),.mv false (.t 1)⟩,
  ⟨some 15,some (11,true),.index (.t 13) (.t 14)⟩,
  ⟨some 16,some (11,true),.callv (.t 12) [(.t 15)]⟩,
  ⟨some 17,none,.pick (.t 11) (.t 16) (.c (.bool false))⟩]
def word_run_r2 : List LOper := [
  ⟨some 18,none,.mv false (.t 1)⟩,
  ⟨some 19,none,.bin .add (.t 18) (.c (.int .i64 1))⟩,
  ⟨some 1,none,.mv false (.t 19)⟩]
def word_run_b0 : LCode := (.seq (.seq (.ops word_run_r1) (.cond (.t 17) .skip (.exit 0))) (.block 1 (.ops word_run_r2)))
def word_run_r3 : List LOper := [
  ⟨some 20,none,.mv false (.t 1)⟩,
  ⟨some 6,none,.mv false (.t 20)⟩]
def word_run_f : LFunc := ⟨21,3,[.tmp 6],(.seq (.ops word_run_r0) (.seq (.block 0 (.loop [0,1,2] word_run_b0)) (.seq (.ops word_run_r3) .ret)))⟩
def word_run_v : VFunc := ⟨word_run_f,true,false,false⟩
theorem word_run_ok : preFunc Tryz.prog ⟨[],[],[]⟩ Tryz.f40 [[0,1,2]] = some word_run_f := by kernel_rfl

-- gantry/word.digit
def word_digit_r0 : List LOper := [
  ⟨some 2,none,.mv false (.c (.bool false))⟩]
def word_digit_r1 : List LOper := [
  ⟨some 3,none,.mv false (.t 0)⟩,
  ⟨some 4,none,.bin .geq (.t 3) (.c (.int .u8 48))⟩,
  ⟨some 5,none,.mv false (.t 4)⟩,
  ⟨some 6,some (5,true),.mv false (.t 0)⟩,
  ⟨some 7,some (5,true),.bin .leq (.t 6) (.c (.int .u8 57))⟩,
  ⟨some 8,none,.pick (.t 5) (.t 7) (.c (.bool false))⟩,
  ⟨some 2,none,.mv false (.t 8)⟩]
def word_digit_f : LFunc := ⟨9,1,[.tmp 2],(.seq (.ops word_digit_r0) (.seq (.ops word_digit_r1) .ret))⟩
def word_digit_v : VFunc := ⟨word_digit_f,true,false,false⟩
theorem word_digit_ok : preFunc Tryz.prog ⟨[],[],[]⟩ Tryz.f41 [] = some word_digit_f := by kernel_rfl

-- gantry/word.sign
def word_sign_r0 : List LOper := [
  ⟨some 2,none,.mv false (.c (.bool false))⟩]
def word_sign_r1 : List LOper := [
  ⟨some 3,none,.mv false (.t 0)⟩,
  ⟨some 4,none,.bin .eql (.t 3) (.c (.int .u8 123))⟩,
  ⟨some 5,none,.mv false (.t 4)⟩,
  ⟨some 6,some (5,false),.mv false (.t 0)⟩,
  ⟨some 7,some (5,false),.bin .eql (.t 6) (.c (.int .u8 125))⟩,
  ⟨some 8,none,.pick (.t 5) (.c (.bool true)) (.t 7)⟩,
  ⟨some 9,none,.mv false (.t 8)⟩,
  ⟨some 10,some (9,false),.mv false (.t 0)⟩,
  ⟨some 11,some (9,false),.bin .eql (.t 10) (.c (.int .u8 59))⟩,
  ⟨some 12,none,.pick (.t 9) (.c (.bool true)) (.t 11)⟩,
  ⟨some 2,none,.mv false (.t 12)⟩]
def word_sign_f : LFunc := ⟨13,1,[.tmp 2],(.seq (.ops word_sign_r0) (.seq (.ops word_sign_r1) .ret))⟩
def word_sign_v : VFunc := ⟨word_sign_f,true,false,false⟩
theorem word_sign_ok : preFunc Tryz.prog ⟨[],[],[]⟩ Tryz.f42 [] = some word_sign_f := by kernel_rfl

-- gantry/word.IsName
def word_IsName_r0 : List LOper := [
  ⟨some 2,none,.mv false (.c (.bool false))⟩]
def word_IsName_r1 : List LOper := [
  ⟨some 4,none,.mv false (.t 0)⟩,
  ⟨some 5,none,.lenS (.t 4)⟩,
  ⟨some 6,none,.bin .eql (.t 5) (.c (.int .i64 0))⟩,
  ⟨some 7,none,.mv false (.t 6)⟩,
  ⟨some 8,some (7,false),.mv false (.t 0)⟩,
  ⟨some 9,some (7,false),.lenS (.t 8)⟩,
  ⟨some 10,some (7,false),.bin .gtr (.t 9) (.c (.int .i64 12))⟩,
  ⟨some 11,none,.pick (.t 7) (.c (.bool true)) (.t 10)⟩]
def word_IsName_r2 : List LOper := [
  ⟨some 2,none,.mv false (.c (.bool false))⟩]
def word_IsName_r3 : List LOper := [
  ⟨some 12,none,.mv false (.t 0)⟩,
  ⟨some 13,none,.lenS (.t 12)⟩,
  ⟨some 14,none,.mv false (.c (.int .i64 0))⟩]
def word_IsName_r4 : List LOper := [
  ⟨some 15,none,.bin .lss (.t 14) (.t 13)⟩]
def word_IsName_r5 : List LOper := [
  ⟨some 16,none,.mv false (.t 14)⟩,
  ⟨some 3,none,.mv false (.t 16)⟩]
def word_IsName_r6 : List LOper := [
  ⟨some 17,none,.mv false (.t 0)⟩,
  ⟨some 18,none,.mv false (.t 3)⟩,
  ⟨some 19,none,.index (.t 17) (.t 18)⟩,
  ⟨some 20,none,.call false 39 [(.t 19)]⟩,
  ⟨some 21,none,.un .not (.t 20)⟩]
def word_IsName_r7 : List LOper := [
  ⟨some 2,none,.mv false (.c (.bool false))⟩]
def word_IsName_r8 : List LOper := [
  ⟨some 22,none,.bin .add (.t 14) (.c (.int .i64 1))⟩,
  ⟨some 14,none,.mv false (.t 22)⟩]
def word_IsName_b0 : LCode := (.seq (.ops word_IsName_r4) (.seq (.cond (.t 15) .skip (.exit 0)) (.seq (.block 1 (.seq (.ops word_IsName_r5) (.seq (.ops word_IsName_r6) (.cond (.t 21) (.seq (.ops word_IsName_r7) .ret) .skip)))) (.ops word_IsName_r8))))
def word_IsName_r9 : List LOper := [
  ⟨some 2,none,.mv false (.c (.bool true))⟩]
def word_IsName_f : LFunc := ⟨23,1,[.tmp 2],(.seq (.ops word_IsName_r0) (.seq (.seq (.ops word_IsName_r1) (.cond (.t 11) (.seq (.ops word_IsName_r2) .ret) .skip)) (.seq (.seq (.ops word_IsName_r3) (.block 0 (.loop [0,13,14] word_IsName_b0))) (.seq (.ops word_IsName_r9) .ret))))⟩
def word_IsName_v : VFunc := ⟨word_IsName_f,true,false,false⟩
theorem word_IsName_ok : preFunc Tryz.prog ⟨[],[],[]⟩ Tryz.f43 [[0,13,14]] = some word_IsName_f := by kernel_rfl

-- gantry/word.IsNumber
def word_IsNumber_r0 : List LOper := [
  ⟨some 2,none,.mv false (.c (.bool false))⟩]
def word_IsNumber_r1 : List LOper := [
  ⟨some 7,none,.mv false (.t 0)⟩,
  ⟨some 8,none,.call false 57 [(.t 7),(.c (.str [47]))]⟩,
  ⟨some 6,none,.mv false (.t 8)⟩,
  ⟨some 9,none,.extract 0 (.t 6)⟩,
  ⟨some 10,none,.extract 1 (.t 6)⟩,
  ⟨some 11,none,.extract 2 (.t 6)⟩,
  ⟨some 3,none,.mv false (.t 9)⟩,
  ⟨some 4,none,.mv false (.t 10)⟩,
  ⟨some 5,none,.mv false (.t 11)⟩]
def word_IsNumber_r2 : List LOper := [
  ⟨some 12,none,.mv false (.t 3)⟩,
  ⟨some 13,none,.call false 58 [(.t 12)]⟩,
  ⟨some 14,none,.mv false (.t 13)⟩,
  ⟨some 15,some (14,true),.mv false (.t 5)⟩,
  ⟨some 16,some (14,true),.un .not (.t 15)⟩,
  ⟨some 17,some (14,true),.mv false (.t 16)⟩,
  ⟨some 18,some (17,false),.mv false (.t 4)⟩,
  ⟨some 19,some (17,false),.call false 58 [(.t 18)]⟩,
  ⟨some 20,some (14,true),.pick (.t 17) (.c (.bool true)) (.t 19)⟩,
  ⟨some 21,none,.pick (.t 14) (.t 20) (.c (.bool false))⟩,
  ⟨some 2,none,.mv false (.t 21)⟩]
def word_IsNumber_f : LFunc := ⟨22,1,[.tmp 2],(.seq (.ops word_IsNumber_r0) (.seq (.ops word_IsNumber_r1) (.seq (.ops word_IsNumber_r2) .ret)))⟩
def word_IsNumber_v : VFunc := ⟨word_IsNumber_f,true,false,false⟩
theorem word_IsNumber_ok : preFunc Tryz.prog ⟨[],[],[]⟩ Tryz.f44 [] = some word_IsNumber_f := by kernel_rfl

-- slices.Contains[[]string,string]
def slices_Contains_stringstring_r0 : List LOper := [
  ⟨some 4,none,.mv false (.c (.bool false))⟩]
def slices_Contains_stringstring_r1 : List LOper := [
  ⟨some 5,none,.mv false (.t 0)⟩,
  ⟨some 6,none,.mv false (.t 1)⟩,
  ⟨some 7,none,.call false 59 [(.t 5),(.t 6)]⟩,
  ⟨some 8,none,.bin .geq (.t 7) (.c (.int .i64 0))⟩,
  ⟨some 4,none,.mv false (.t 8)⟩]
def slices_Contains_stringstring_f : LFunc := ⟨9,2,[.tmp 4],(.seq (.ops slices_Contains_stringstring_r0) (.seq (.ops slices_Contains_stringstring_r1) .ret))⟩
def slices_Contains_stringstring_v : VFunc := ⟨slices_Contains_stringstring_f,true,false,false⟩
theorem slices_Contains_stringstring_ok : preFunc Tryz.prog ⟨[],[],[]⟩ Tryz.f45 [] = some slices_Contains_stringstring_f := by kernel_rfl

-- gantry/parse.begins
def parse_begins_r0 : List LOper := [
  ⟨some 2,none,.mv false (.c (.bool false))⟩]
def parse_begins_r1 : List LOper := [
  ⟨some 3,none,.mv false (.t 0)⟩,
  ⟨some 4,none,.lenL (.t 3)⟩,
  ⟨some 5,none,.bin .gtr (.t 4) (.c (.int .i64 0))⟩,
  ⟨some 6,none,.mv false (.t 5)⟩,
  ⟨some 7,some (6,true),.mv false (.t 0)⟩,
  ⟨some 8,some (6,true),.indexAddr 3 (.t 7) (.c (.int .i64 0))⟩,
  ⟨some 9,some (6,true),.fieldAddr 2 (.t 8)⟩,
  ⟨some 10,some (6,true),.load false false 1 (.t 9)⟩,
  ⟨some 11,some (6,true),.call false 25 [(.t 10)]⟩,
  ⟨some 12,none,.pick (.t 6) (.t 11) (.c (.bool false))⟩,
  ⟨some 13,none,.mv false (.t 12)⟩,
  ⟨some 14,some (13,true),.mv false (.t 0)⟩,
  ⟨some 15,some (13,true),.indexAddr 3 (.t 14) (.c (.int .i64 0))⟩,
  ⟨some 16,some (13,true),.fieldAddr 2 (.t 15)⟩,
  ⟨some 17,some (13,true),.load false false 1 (.t 16)⟩,
  ⟨some 18,some (13,true),.call false 60 [(.t 17)]⟩,
  ⟨some 19,some (13,true),.un .not (.t 18)⟩,
  ⟨some 20,none,.pick (.t 13) (.t 19) (.c (.bool false))⟩,
  ⟨some 2,none,.mv false (.t 20)⟩]
def parse_begins_f : LFunc := ⟨21,1,[.tmp 2],(.seq (.ops parse_begins_r0) (.seq (.ops parse_begins_r1) .ret))⟩
def parse_begins_v : VFunc := ⟨parse_begins_f,true,false,false⟩
theorem parse_begins_ok : preFunc Tryz.prog ⟨[],[],[]⟩ Tryz.f46 [] = some parse_begins_f := by kernel_rfl

-- (*gantry/parse.reader).blocks
def parse_reader_blocks_r0 : List LOper := [
  ⟨some 8,none,.mv false (.c (.nilslice))⟩,
  ⟨some 9,none,.mv false (.c (.int .i64 0))⟩]
def parse_reader_blocks_r1 : List LOper := [
  ⟨some 10,none,.mv true (.c (.nilslice))⟩]
def parse_reader_blocks_r2 : List LOper := [
  ⟨some 14,none,.mv false (.t 0)⟩,
  ⟨some 15,none,.mv false (.t 1)⟩,
  ⟨some 16,none,.call false 14 [(.t 14),(.t 15)]⟩,
  ⟨some 13,none,.mv false (.t 16)⟩,
  ⟨some 17,none,.extract 0 (.t 13)⟩,
  ⟨some 18,none,.extract 1 (.t 13)⟩,
  ⟨some 11,none,.mv false (.t 17)⟩,
  ⟨some 12,none,.mv false (.t 18)⟩]
def parse_reader_blocks_r3 : List LOper := [
  ⟨some 19,none,.mv false (.t 12)⟩,
  ⟨some 20,none,.bin .neq (.t 19) (.c (.int .i64 0))⟩]
def parse_reader_blocks_r4 : List LOper := [
  ⟨some 21,none,.mv false (.t 12)⟩,
  ⟨some 8,none,.mv false (.c (.nilslice))⟩,
  ⟨some 9,none,.mv false (.t 21)⟩]
def parse_reader_blocks_r5 : List LOper := [
  ⟨some 22,none,.mv true (.t 10)⟩,
  ⟨some 23,none,.mv false (.t 11)⟩,
  ⟨some 24,none,.bslice false 1 1 [.nilslice] [(0,1,(.t 23))]⟩,
  ⟨some 25,none,.append true 1 24 (.t 22) (.t 24)⟩,
  ⟨some 10,none,.mv true (.t 25)⟩]
def parse_reader_blocks_r6 : List LOper := [
  ⟨some 26,none,.mv false (.t 10)⟩,
  ⟨some 27,none,.lenL (.t 26)⟩,
  ⟨some 28,none,.mv false (.t 3)⟩,
  ⟨some 29,none,.bin .eql (.t 27) (.t 28)⟩,
  ⟨some 30,none,.mv false (.t 29)⟩,
  ⟨some 31,some (30,false),.mv false (.t 0)⟩,
  ⟨some 32,some (30,false),.mv false (.t 2)⟩,
  ⟨some 33,some (30,false),.call false 12 [(.t 31),(.t 32)]⟩,
  ⟨some 34,some (30,false),.un .not (.t 33)⟩,
  ⟨some 35,none,.pick (.t 30) (.c (.bool true)) (.t 34)⟩]
def parse_reader_blocks_r7 : List LOper := [
  ⟨some 36,none,.mv false (.t 10)⟩,
  ⟨some 8,none,.mv false (.t 36)⟩,
  ⟨some 9,none,.mv false (.c (.int .i64 0))⟩]
def parse_reader_blocks_b0 : LCode := (.block 1 (.seq (.ops parse_reader_blocks_r2) (.seq (.seq (.ops parse_reader_blocks_r3) (.cond (.t 20) (.seq (.ops parse_reader_blocks_r4) .ret) .skip)) (.seq (.ops parse_reader_blocks_r5) (.seq (.ops parse_reader_blocks_r6) (.cond (.t 35) (.seq (.ops parse_reader_blocks_r7) .ret) .skip))))))
def parse_reader_blocks_f : LFunc := ⟨37,4,[.tmp 8,.tmp 9],(.seq (.ops parse_reader_blocks_r0) (.seq (.ops parse_reader_blocks_r1) (.block 0 (.loop [0,1,2,3,10] parse_reader_blocks_b0))))⟩
def parse_reader_blocks_v : VFunc := ⟨parse_reader_blocks_f,false,false,false⟩
theorem parse_reader_blocks_ok : preFunc Tryz.prog ⟨[10,22,25],[],[]⟩ Tryz.f47 [[0,1,2,3,10]] = some parse_reader_blocks_f := by kernel_rfl

-- (*gantry/parse.reader).count
def parse_reader_count_r0 : List LOper := [
  ⟨some 2,none,.mv false (.c (.int .i64 0))⟩,
  ⟨some 3,none,.mv false (.c (.bool false))⟩]
def parse_reader_count_r1 : List LOper := [
  ⟨some 6,none,.mv false (.t 0)⟩,
  ⟨some 7,none,.nilchk (.t 6)⟩,
  ⟨some 8,none,.fieldAddr 0 (.t 7)⟩,
  ⟨some 9,none,.load false false 1 (.t 8)⟩,
  ⟨some 10,none,.lenL (.t 9)⟩,
  ⟨some 11,none,.bin .eql (.t 10) (.c (.int .i64 0))⟩,
  ⟨some 12,none,.mv false (.t 11)⟩,
  ⟨some 13,some (12,false),.mv false (.t 0)⟩,
  ⟨some 14,some (12,false),.nilchk (.t 13)⟩,
  ⟨some 15,some (12,false),.fieldAddr 0 (.t 14)⟩,
  ⟨some 16,some (12,false),.load false false 1 (.t 15)⟩,
  ⟨some 17,some (12,false),.indexAddr 3 (.t 16) (.c (.int .i64 0))⟩,
  ⟨some 18,some (12,false),.fieldAddr 0 (.t 17)⟩,
  ⟨some 19,some (12,false),.load false false 1 (.t 18)⟩,
  ⟨some 20,some (12,false),.bin .neq (.t 19) (.c (.int .i64 2))⟩,
  ⟨some 21,none,.pick (.t 12) (.c (.bool true)) (.t 20)⟩]
def parse_reader_count_r2 : List LOper := [
  ⟨some 2,none,.mv false (.c (.int .i64 0))⟩,
  ⟨some 3,none,.mv false (.c (.bool false))⟩]
def parse_reader_count_r3 : List LOper := [
  ⟨some 23,none,.mv false (.t 0)⟩,
  ⟨some 24,none,.nilchk (.t 23)⟩,
  ⟨some 25,none,.fieldAddr 0 (.t 24)⟩,
  ⟨some 26,none,.load false false 1 (.t 25)⟩,
  ⟨some 27,none,.indexAddr 3 (.t 26) (.c (.int .i64 0))⟩,
  ⟨some 28,none,.fieldAddr 2 (.t 27)⟩,
  ⟨some 29,none,.load false false 1 (.t 28)⟩,
  ⟨some 30,none,.call false 61 [(.t 29),(.c (.int .i64 10)),(.c (.int .i64 64))]⟩,
  ⟨some 22,none,.mv false (.t 30)⟩,
  ⟨some 31,none,.extract 0 (.t 22)⟩,
  ⟨some 32,none,.extract 1 (.t 22)⟩,
  ⟨some 4,none,.mv false (.t 31)⟩,
  ⟨some 5,none,.mv false (.t 32)⟩]
def parse_reader_count_r4 : List LOper := [
  ⟨some 33,none,.mv false (.t 5)⟩,
  ⟨some 34,none,.eqv true .iface (.t 33) (.c (.nilif))⟩,
  ⟨some 35,none,.mv false (.t 34)⟩,
  ⟨some 36,some (35,false),.mv false (.t 4)⟩,
  ⟨some 37,some (35,false),.call true 52 [(.t 36)]⟩,
  ⟨some 38,some (35,false),.mv false (.t 0)⟩,
  ⟨some 39,some (35,false),.nilchk (.t 38)⟩,
  ⟨some 40,some (35,false),.fieldAddr 0 (.t 39)⟩,
  ⟨some 41,some (35,false),.load false false 1 (.t 40)⟩,
  ⟨some 42,some (35,false),.indexAddr 3 (.t 41) (.c (.int .i64 0))⟩,
  ⟨some 43,some (35,false),.fieldAddr 2 (.t 42)⟩,
  ⟨some 44,some (35,false),.load false false 1 (.t 43)⟩,
  ⟨some 45,some (35,false),.bin .neq (.t 37) (.t 44)⟩,
  ⟨some 46,none,.pick (.t 35) (.c (.bool true)) (.t 45)⟩]
theorem parse_reader_count_r4_d : drawC [0,1,3,7,15,7,39,103,231,487,999,2023,4095,8191] [
  ⟨some 33,none,.mv false (.t 5)⟩,
  ⟨some 34,none,.eqv true .iface (.t 33) (.c (.nilif))⟩,
  ⟨some 35,none,.mv false (.t 34)⟩,
  ⟨some 36,some (35,false),.mv false (.t 4)⟩,
  ⟨some 37,some (35,false),.call true 52 [(.t 36)]⟩,
  ⟨some 38,some (35,false),.mv false (.t 0)⟩,
  ⟨some 39,some (35,false),.nilchk (.t 38)⟩,
  ⟨some 40,some (35,false),.fieldAddr 0 (.t 39)⟩,
  ⟨some 41,some (35,false),.load false false 1 (.t 40)⟩,
  ⟨some 42,some (35,false),.indexAddr 3 (.t 41) (.c (.int .i64 0))⟩,
  ⟨some 43,some (35,false),.fieldAddr 2 (.t 42)⟩,
  ⟨some 44,some (35,false),.load false false 1 (.t 43)⟩,
  ⟨some 45,some (35,false),.bin .neq (.t 37) (.t 44)⟩,
  ⟨some 46,none,.pick (.t 35) (.c (.bool true)) (.t 45)⟩] = true := by kernel_rfl
def parse_reader_count_r5 : List LOper := [
  ⟨some 2,none,.mv false (.c (.int .i64 0))⟩,
  ⟨some 3,none,.mv false (.c (.bool false))⟩]
def parse_reader_count_r6 : List LOper := [
  ⟨some 47,none,.mv false (.t 0)⟩,
  ⟨some 48,none,.mv false (.t 0)⟩,
  ⟨some 49,none,.nilchk (.t 48)⟩,
  ⟨some 50,none,.fieldAddr 0 (.t 49)⟩,
  ⟨some 51,none,.load false false 1 (.t 50)⟩,
  ⟨some 52,none,.slc 3 (.t 51) (some (.c (.int .i64 1))) none none⟩,
  ⟨some 53,none,.nilchk (.t 47)⟩,
  ⟨some 54,none,.fieldAddr 0 (.t 53)⟩,
  ⟨none,none,.store 1 (.t 54) (.t 52)⟩]
def parse_reader_count_r7 : List LOper := [
  ⟨some 55,none,.mv false (.t 4)⟩,
  ⟨some 2,none,.mv false (.t 55)⟩,
  ⟨some 3,none,.mv false (.c (.bool true))⟩]
def parse_reader_count_f : LFunc := ⟨56,1,[.tmp 2,.tmp 3],(.seq (.ops parse_reader_count_r0) (.seq (.seq (.ops parse_reader_count_r1) (.cond (.t 21) (.seq (.ops parse_reader_count_r2) .ret) .skip)) (.seq (.ops parse_reader_count_r3) (.seq (.seq (.dops [0,1,3,7,15,7,39,103,231,487,999,2023,4095,8191] parse_reader_count_r4) (.cond (.t 46) (.seq (.ops parse_reader_count_r5) .ret) .skip)) (.seq (.ops parse_reader_count_r6) (.seq (.ops parse_reader_count_r7) .ret))))))⟩
def parse_reader_count_v : VFunc := ⟨parse_reader_count_f,false,false,false⟩
theorem parse_reader_count_ok : preFunc Tryz.prog ⟨[],[],[37]⟩ Tryz.f48 [] = some parse_reader_count_f := by kernel_rfl

-- (*gantry/parse.reader).plain
def parse_reader_plain_r0 : List LOper := [
  ⟨some 2,none,.alloc [.int .i64 0,.str [],.str [],.bool false,.str [],.str [],.int .i64 0,.nilslice]⟩,
  ⟨some 3,none,.mv false (.c (.bool false))⟩]
def parse_reader_plain_r1 : List LOper := [
  ⟨some 4,none,.alloc [.int .i64 0,.str [],.str [],.bool false,.str [],.str [],.int .i64 0,.nilslice]⟩]
def parse_reader_plain_r2 : List LOper := [
  ⟨some 5,none,.mv false (.c (.bool true))⟩]
def parse_reader_plain_r3 : List LOper := [
  ⟨some 8,none,.mv false (.t 0)⟩,
  ⟨some 9,none,.call false 12 [(.t 8),(.c (.str [112,117,116]))]⟩,
  ⟨some 7,none,.mv false (.t 9)⟩]
def parse_reader_plain_r4 : List LOper := [
  ⟨some 10,none,.fieldAddr 0 (.t 4)⟩,
  ⟨none,none,.store 1 (.t 10) (.c (.int .i64 1))⟩]
def parse_reader_plain_r5 : List LOper := [
  ⟨some 12,none,.mv false (.t 0)⟩,
  ⟨some 13,none,.call false 12 [(.t 12),(.c (.str [104,111,108,100]))]⟩,
  ⟨some 11,none,.mv false (.t 13)⟩]
def parse_reader_plain_r6 : List LOper := [
  ⟨some 14,none,.fieldAddr 0 (.t 4)⟩,
  ⟨none,none,.store 1 (.t 14) (.c (.int .i64 2))⟩]
def parse_reader_plain_r7 : List LOper := [
  ⟨some 16,none,.mv false (.t 0)⟩,
  ⟨some 17,none,.call false 12 [(.t 16),(.c (.str [102,114,101,101]))]⟩,
  ⟨some 15,none,.mv false (.t 17)⟩]
def parse_reader_plain_r8 : List LOper := [
  ⟨some 18,none,.fieldAddr 0 (.t 4)⟩,
  ⟨none,none,.store 1 (.t 18) (.c (.int .i64 3))⟩]
def parse_reader_plain_r9 : List LOper := [
  ⟨some 20,none,.mv false (.t 0)⟩,
  ⟨some 21,none,.call false 12 [(.t 20),(.c (.str [115,101,101]))]⟩,
  ⟨some 19,none,.mv false (.t 21)⟩]
def parse_reader_plain_r10 : List LOper := [
  ⟨some 22,none,.fieldAddr 0 (.t 4)⟩,
  ⟨none,none,.store 1 (.t 22) (.c (.int .i64 4))⟩]
def parse_reader_plain_r11 : List LOper := [
  ⟨some 24,none,.mv false (.t 0)⟩,
  ⟨some 25,none,.call false 12 [(.t 24),(.c (.str [119,97,105,116]))]⟩,
  ⟨some 23,none,.mv false (.t 25)⟩]
def parse_reader_plain_r12 : List LOper := [
  ⟨some 26,none,.fieldAddr 0 (.t 4)⟩,
  ⟨none,none,.store 1 (.t 26) (.c (.int .i64 5))⟩]
def parse_reader_plain_r13 : List LOper := [
  ⟨some 28,none,.mv false (.t 0)⟩,
  ⟨some 29,none,.call false 48 [(.t 28)]⟩,
  ⟨some 27,none,.mv false (.t 29)⟩,
  ⟨some 30,none,.extract 0 (.t 27)⟩,
  ⟨some 31,none,.extract 1 (.t 27)⟩,
  ⟨some 32,none,.fieldAddr 6 (.t 4)⟩,
  ⟨none,none,.store 1 (.t 32) (.t 30)⟩,
  ⟨some 5,none,.mv false (.t 31)⟩]
def parse_reader_plain_r14 : List LOper := [
  ⟨some 33,none,.load false true 8 (.t 4)⟩,
  ⟨some 34,none,.mv false (.t 5)⟩,
  ⟨none,none,.store 8 (.t 2) (.t 33)⟩,
  ⟨some 3,none,.mv false (.t 34)⟩]
def parse_reader_plain_r15 : List LOper := [
  ⟨some 6,none,.load false true 8 (.t 4)⟩,
  ⟨none,none,.store 8 (.t 2) (.t 6)⟩,
  ⟨some 3,none,.mv false (.c (.bool false))⟩]
def parse_reader_plain_r16 : List LOper := [
  ⟨some 36,none,.mv false (.t 0)⟩,
  ⟨some 37,none,.call false 13 [(.t 36)]⟩,
  ⟨some 35,none,.mv false (.t 37)⟩,
  ⟨some 38,none,.extract 0 (.t 35)⟩,
  ⟨some 39,none,.extract 1 (.t 35)⟩,
  ⟨some 40,none,.fieldAddr 1 (.t 4)⟩,
  ⟨none,none,.store 1 (.t 40) (.t 38)⟩,
  ⟨some 5,none,.mv false (.t 39)⟩]
def parse_reader_plain_r17 : List LOper := [
  ⟨some 41,none,.mv false (.t 5)⟩,
  ⟨some 42,none,.un .not (.t 41)⟩,
  ⟨some 43,none,.mv false (.t 42)⟩,
  ⟨some 44,some (43,false),.fieldAddr 0 (.t 4)⟩,
  ⟨some 45,some (43,false),.load false false 1 (.t 44)⟩,
  ⟨some 46,some (43,false),.bin .eql (.t 45) (.c (.int .i64 3))⟩,
  ⟨some 47,none,.pick (.t 43) (.c (.bool true)) (.t 46)⟩,
  ⟨some 48,none,.mv false (.t 47)⟩,
  ⟨some 49,some (48,false),.fieldAddr 0 (.t 4)⟩,
  ⟨some 50,some (48,false),.load false false 1 (.t 49)⟩,
  ⟨some 51,some (48,false),.bin .eql (.t 50) (.c (.int .i64 4))⟩,
  ⟨some 52,none,.pick (.t 48) (.c (.bool true)) (.t 51)⟩]
def parse_reader_plain_r18 : List LOper := [
  ⟨some 53,none,.load false true 8 (.t 4)⟩,
  ⟨some 54,none,.mv false (.t 5)⟩,
  ⟨none,none,.store 8 (.t 2) (.t 53)⟩,
  ⟨some 3,none,.mv false (.t 54)⟩]
def parse_reader_plain_r19 : List LOper := [
  ⟨some 55,none,.mv false (.t 0)⟩,
  ⟨some 56,none,.mkmap⟩,
  ⟨none,none,.update (.t 56) (.c (.int .i64 1)) (.c (.str [105,110]))⟩,
  ⟨none,none,.update (.t 56) (.c (.int .i64 2)) (.c (.str [119,105,116,104]))⟩,
  ⟨some 57,none,.mv false (.t 56)⟩,
  ⟨some 58,none,.fieldAddr 0 (.t 4)⟩,
  ⟨some 59,none,.load false false 1 (.t 58)⟩,
  ⟨some 60,none,.lookup (.str []) false (.t 57) (.t 59)⟩,
  ⟨some 61,none,.call false 12 [(.t 55),(.t 60)]⟩,
  ⟨some 62,none,.un .not (.t 61)⟩]
def parse_reader_plain_r20 : List LOper := [
  ⟨some 63,none,.load false true 8 (.t 4)⟩,
  ⟨none,none,.store 8 (.t 2) (.t 63)⟩,
  ⟨some 3,none,.mv false (.c (.bool false))⟩]
def parse_reader_plain_r21 : List LOper := [
  ⟨some 65,none,.mv false (.t 0)⟩,
  ⟨some 66,none,.call false 13 [(.t 65)]⟩,
  ⟨some 64,none,.mv false (.t 66)⟩,
  ⟨some 67,none,.extract 0 (.t 64)⟩,
  ⟨some 68,none,.extract 1 (.t 64)⟩,
  ⟨some 69,none,.fieldAddr 2 (.t 4)⟩,
  ⟨none,none,.store 1 (.t 69) (.t 67)⟩,
  ⟨some 5,none,.mv false (.t 68)⟩]
def parse_reader_plain_r22 : List LOper := [
  ⟨some 70,none,.mv false (.t 5)⟩,
  ⟨some 71,none,.mv false (.t 70)⟩,
  ⟨some 72,some (71,true),.fieldAddr 0 (.t 4)⟩,
  ⟨some 73,some (71,true),.load false false 1 (.t 72)⟩,
  ⟨some 74,some (71,true),.bin .eql (.t 73) (.c (.int .i64 1))⟩,
  ⟨some 75,none,.pick (.t 71) (.t 74) (.c (.bool false))⟩,
  ⟨some 76,none,.mv false (.t 75)⟩,
  ⟨some 77,some (76,true),.mv false (.t 0)⟩,
  ⟨some 78,some (76,true),.call false 12 [(.t 77),(.c (.str [119,105,116,104,105,110]))]⟩,
  ⟨some 79,none,.pick (.t 76) (.t 78) (.c (.bool false))⟩]
def parse_reader_plain_r23 : List LOper := [
  ⟨some 81,none,.mv false (.t 0)⟩,
  ⟨some 82,none,.call false 62 [(.t 81)]⟩,
  ⟨some 80,none,.mv false (.t 82)⟩,
  ⟨some 83,none,.extract 0 (.t 80)⟩,
  ⟨some 84,none,.extract 1 (.t 80)⟩,
  ⟨some 85,none,.fieldAddr 3 (.t 4)⟩,
  ⟨none,none,.store 3 (.t 85) (.t 83)⟩,
  ⟨some 5,none,.mv false (.t 84)⟩]
def parse_reader_plain_r24 : List LOper := [
  ⟨some 86,none,.load false true 8 (.t 4)⟩,
  ⟨some 87,none,.mv false (.t 5)⟩,
  ⟨none,none,.store 8 (.t 2) (.t 86)⟩,
  ⟨some 3,none,.mv false (.t 87)⟩]
def parse_reader_plain_f : LFunc := ⟨88,1,[.cell 2 true 8,.tmp 3],(.seq (.ops parse_reader_plain_r0) (.seq (.ops parse_reader_plain_r1) (.seq (.ops parse_reader_plain_r2) (.seq (.block 0 (.seq (.ops parse_reader_plain_r3) (.cond (.t 7) (.ops parse_reader_plain_r4) (.seq (.ops parse_reader_plain_r5) (.cond (.t 11) (.ops parse_reader_plain_r6) (.seq (.ops parse_reader_plain_r7) (.cond (.t 15) (.ops parse_reader_plain_r8) (.seq (.ops parse_reader_plain_r9) (.cond (.t 19) (.ops parse_reader_plain_r10) (.seq (.ops parse_reader_plain_r11) (.cond (.t 23) (.seq (.ops parse_reader_plain_r12) (.seq (.ops parse_reader_plain_r13) (.seq (.ops parse_reader_plain_r14) .ret))) (.seq (.ops parse_reader_plain_r15) .ret)))))))))))) (.seq (.seq (.ops parse_reader_plain_r16) (.seq (.ops parse_reader_plain_r17) (.cond (.t 52) (.seq (.ops parse_reader_plain_r18) .ret) .skip))) (.seq (.seq (.ops parse_reader_plain_r19) (.cond (.t 62) (.seq (.ops parse_reader_plain_r20) .ret) .skip)) (.seq (.seq (.ops parse_reader_plain_r21) (.seq (.ops parse_reader_plain_r22) (.cond (.t 79) (.ops parse_reader_plain_r23) .skip))) (.seq (.ops parse_reader_plain_r24) .ret))))))))⟩
def parse_reader_plain_v : VFunc := ⟨parse_reader_plain_f,false,false,false⟩
theorem parse_reader_plain_ok : preFunc Tryz.prog ⟨[],[],[]⟩ Tryz.f49 [] = some parse_reader_plain_f := by kernel_rfl

-- gantry/parse.stmt
def parse_stmt_r0 : List LOper := [
  ⟨some 2,none,.box (.t 0)⟩,
  ⟨some 4,none,.mv false (.c (.int .i64 0))⟩,
  ⟨some 5,none,.mv false (.c (.int .i64 0))⟩]
def parse_stmt_r1 : List LOper := [
  ⟨some 12,none,.fieldAddr 0 (.t 2)⟩,
  ⟨some 13,none,.load false false 1 (.t 12)⟩,
  ⟨some 14,none,.bin .lss (.t 13) (.c (.int .i64 1))⟩,
  ⟨some 15,none,.mv false (.t 14)⟩,
  ⟨some 16,some (15,false),.fieldAddr 0 (.t 2)⟩,
  ⟨some 17,some (15,false),.load false false 1 (.t 16)⟩,
  ⟨some 18,some (15,false),.bin .gtr (.t 17) (.c (.int .i64 9))⟩,
  ⟨some 19,none,.pick (.t 15) (.c (.bool true)) (.t 18)⟩]
def parse_stmt_r2 : List LOper := [
  ⟨some 4,none,.mv false (.c (.int .i64 0))⟩,
  ⟨some 5,none,.mv false (.c (.int .i64 3))⟩]
def parse_stmt_r3 : List LOper := [
  ⟨some 20,none,.fieldAddr 0 (.t 2)⟩,
  ⟨some 21,none,.load false false 1 (.t 20)⟩,
  ⟨some 22,none,.bin .lss (.t 21) (.c (.int .i64 6))⟩]
def parse_stmt_r4 : List LOper := [
  ⟨some 23,none,.load false true 8 (.t 2)⟩,
  ⟨some 24,none,.call false 63 [(.t 23)]⟩,
  ⟨some 4,none,.mv false (.c (.int .i64 1))⟩,
  ⟨some 5,none,.mv false (.t 24)⟩]
def parse_stmt_r5 : List LOper := [
  ⟨some 25,none,.load false true 8 (.t 2)⟩,
  ⟨some 26,none,.call false 64 [(.t 25)]⟩,
  ⟨some 6,none,.mv false (.t 26)⟩]
def parse_stmt_r6 : List LOper := [
  ⟨some 27,none,.mv false (.t 6)⟩,
  ⟨some 28,none,.bin .neq (.t 27) (.c (.int .i64 0))⟩]
def parse_stmt_r7 : List LOper := [
  ⟨some 29,none,.mv false (.t 6)⟩,
  ⟨some 4,none,.mv false (.c (.int .i64 0))⟩,
  ⟨some 5,none,.mv false (.t 29)⟩]
def parse_stmt_r8 : List LOper := [
  ⟨some 7,none,.mv false (.c (.int .i64 1))⟩]
def parse_stmt_r9 : List LOper := [
  ⟨some 30,none,.fieldAddr 7 (.t 2)⟩,
  ⟨some 31,none,.load false false 1 (.t 30)⟩,
  ⟨some 32,none,.lenL (.t 31)⟩,
  ⟨some 33,none,.mv false (.c (.int .i64 0))⟩]
def parse_stmt_r10 : List LOper := [
  ⟨some 34,none,.bin .lss (.t 33) (.t 32)⟩]
def parse_stmt_r11 : List LOper := [
  ⟨some 35,none,.indexAddr 1 (.t 31) (.t 33)⟩,
  ⟨some 36,none,.load false false 1 (.t 35)⟩,
  ⟨some 9,none,.mv false (.t 36)⟩]
def parse_stmt_r12 : List LOper := [
  ⟨some 38,none,.mv false (.t 9)⟩,
  ⟨some 39,none,.mv false (.t 1)⟩,
  ⟨some 40,none,.bin .add (.t 39) (.c (.int .i64 1))⟩,
  ⟨some 41,none,.call false 28 [(.t 38),(.t 40)]⟩,
  ⟨some 37,none,.mv false (.t 41)⟩,
  ⟨some 42,none,.extract 0 (.t 37)⟩,
  ⟨some 43,none,.extract 1 (.t 37)⟩,
  ⟨some 10,none,.mv false (.t 42)⟩,
  ⟨some 11,none,.mv false (.t 43)⟩]
def parse_stmt_r13 : List LOper := [
  ⟨some 44,none,.mv false (.t 11)⟩,
  ⟨some 45,none,.bin .neq (.t 44) (.c (.int .i64 0))⟩]
def parse_stmt_r14 : List LOper := [
  ⟨some 46,none,.mv false (.t 11)⟩,
  ⟨some 4,none,.mv false (.c (.int .i64 0))⟩,
  ⟨some 5,none,.mv false (.t 46)⟩]
def parse_stmt_r15 : List LOper := [
  ⟨some 47,none,.mv false (.t 7)⟩,
  ⟨some 48,none,.mv false (.t 10)⟩,
  ⟨some 49,none,.fieldAddr 6 (.t 2)⟩,
  ⟨some 50,none,.load false false 1 (.t 49)⟩,
  ⟨some 51,none,.max2 [(.t 50),(.c (.int .i64 1))]⟩,
  ⟨some 52,none,.bin .mul (.t 48) (.t 51)⟩,
  ⟨some 53,none,.bin .add (.t 47) (.t 52)⟩,
  ⟨some 7,none,.mv false (.t 53)⟩]
def parse_stmt_r16 : List LOper := [
  ⟨some 54,none,.mv false (.t 7)⟩,
  ⟨some 55,none,.bin .gtr (.t 54) (.c (.int .i64 100))⟩]
def parse_stmt_r17 : List LOper := [
  ⟨some 4,none,.mv false (.c (.int .i64 0))⟩,
  ⟨some 5,none,.mv false (.c (.int .i64 2))⟩]
def parse_stmt_r18 : List LOper := [
  ⟨some 56,none,.bin .add (.t 33) (.c (.int .i64 1))⟩,
  ⟨some 33,none,.mv false (.t 56)⟩]
def parse_stmt_b0 : LCode := (.seq (.ops parse_stmt_r10) (.seq (.cond (.t 34) .skip (.exit 0)) (.seq (.block 1 (.seq (.ops parse_stmt_r11) (.seq (.ops parse_stmt_r12) (.seq (.seq (.ops parse_stmt_r13) (.cond (.t 45) (.seq (.ops parse_stmt_r14) .ret) .skip)) (.seq (.ops parse_stmt_r15) (.seq (.ops parse_stmt_r16) (.cond (.t 55) (.seq (.ops parse_stmt_r17) .ret) .skip))))))) (.ops parse_stmt_r18))))
def parse_stmt_r19 : List LOper := [
  ⟨some 57,none,.mv false (.t 7)⟩,
  ⟨some 4,none,.mv false (.t 57)⟩,
  ⟨some 5,none,.mv false (.c (.int .i64 0))⟩]
def parse_stmt_f : LFunc := ⟨58,2,[.tmp 4,.tmp 5],(.seq (.ops parse_stmt_r0) (.seq (.seq (.ops parse_stmt_r1) (.cond (.t 19) (.seq (.ops parse_stmt_r2) .ret) .skip)) (.seq (.seq (.ops parse_stmt_r3) (.cond (.t 22) (.seq (.ops parse_stmt_r4) .ret) .skip)) (.seq (.seq (.ops parse_stmt_r5) (.seq (.ops parse_stmt_r6) (.cond (.t 28) (.seq (.ops parse_stmt_r7) .ret) .skip))) (.seq (.ops parse_stmt_r8) (.seq (.seq (.ops parse_stmt_r9) (.block 0 (.loop [1,2,7,31,32,33] parse_stmt_b0))) (.seq (.ops parse_stmt_r19) .ret)))))))⟩
def parse_stmt_v : VFunc := ⟨parse_stmt_f,true,false,false⟩
theorem parse_stmt_ok : preFunc Tryz.prog ⟨[],[],[]⟩ Tryz.f50 [[1,2,7,31,32,33]] = some parse_stmt_f := by kernel_rfl

-- gantry/rat.Text
def rat_Text_r0 : List LOper := [
  ⟨some 1,none,.box (.t 0)⟩,
  ⟨some 2,none,.mv false (.c (.str []))⟩]
def rat_Text_r1 : List LOper := [
  ⟨some 4,none,.load false true 3 (.t 1)⟩,
  ⟨some 5,none,.call false 65 [(.t 4)]⟩,
  ⟨none,none,.store 3 (.t 1) (.t 5)⟩]
def rat_Text_r2 : List LOper := [
  ⟨some 6,none,.fieldAddr 1 (.t 1)⟩,
  ⟨some 7,none,.load false false 1 (.t 6)⟩,
  ⟨some 8,none,.call false 66 [(.t 7)]⟩,
  ⟨some 3,none,.mv false (.t 8)⟩]
def rat_Text_r3 : List LOper := [
  ⟨some 9,none,.fieldAddr 0 (.t 1)⟩,
  ⟨some 10,none,.load false false 1 (.t 9)⟩]
def rat_Text_r4 : List LOper := [
  ⟨some 11,none,.mv false (.t 3)⟩,
  ⟨some 12,none,.bin .add (.c (.str [45])) (.t 11)⟩,
  ⟨some 3,none,.mv false (.t 12)⟩]
def rat_Text_r5 : List LOper := [
  ⟨some 13,none,.fieldAddr 2 (.t 1)⟩,
  ⟨some 14,none,.load false false 1 (.t 13)⟩,
  ⟨some 15,none,.bin .neq (.t 14) (.c (.str [1]))⟩]
def rat_Text_r6 : List LOper := [
  ⟨some 16,none,.mv false (.t 3)⟩,
  ⟨some 17,none,.fieldAddr 2 (.t 1)⟩,
  ⟨some 18,none,.load false false 1 (.t 17)⟩,
  ⟨some 19,none,.call false 66 [(.t 18)]⟩,
  ⟨some 20,none,.bin .add (.c (.str [47])) (.t 19)⟩,
  ⟨some 21,none,.bin .add (.t 16) (.t 20)⟩,
  ⟨some 3,none,.mv false (.t 21)⟩]
def rat_Text_r7 : List LOper := [
  ⟨some 22,none,.mv false (.t 3)⟩,
  ⟨some 2,none,.mv false (.t 22)⟩]
def rat_Text_f : LFunc := ⟨23,1,[.tmp 2],(.seq (.ops rat_Text_r0) (.seq (.ops rat_Text_r1) (.seq (.ops rat_Text_r2) (.seq (.seq (.ops rat_Text_r3) (.cond (.t 10) (.ops rat_Text_r4) .skip)) (.seq (.seq (.ops rat_Text_r5) (.cond (.t 15) (.ops rat_Text_r6) .skip)) (.seq (.ops rat_Text_r7) .ret))))))⟩
def rat_Text_v : VFunc := ⟨rat_Text_f,true,false,false⟩
theorem rat_Text_ok : preFunc Tryz.prog ⟨[],[],[]⟩ Tryz.f51 [] = some rat_Text_f := by kernel_rfl

-- gantry/parse.number
def parse_number_r0 : List LOper := [
  ⟨some 2,none,.mv false (.c (.str []))⟩]
def parse_number_r1 : List LOper := [
  ⟨some 3,none,.mv false (.t 0)⟩,
  ⟨some 4,none,.call false 67 [(.t 3),(.c (.int .i64 10))]⟩,
  ⟨some 2,none,.mv false (.t 4)⟩]
def parse_number_f : LFunc := ⟨5,1,[.tmp 2],(.seq (.ops parse_number_r0) (.seq (.ops parse_number_r1) .ret))⟩
def parse_number_v : VFunc := ⟨parse_number_f,true,false,false⟩
theorem parse_number_ok : preFunc Tryz.prog ⟨[],[],[]⟩ Tryz.f52 [] = some parse_number_f := by kernel_rfl

-- slices.EqualFunc[[][]gantry/parse.Stmt,[][]gantry/parse.Stmt,[]gantry/parse.Stmt,[]gantry/parse.Stmt]
def slices_EqualFunc_antryparseStmtx_r0 : List LOper := [
  ⟨some 6,none,.mv false (.c (.bool false))⟩]
def slices_EqualFunc_antryparseStmtx_r1 : List LOper := [
  ⟨some 10,none,.mv false (.t 0)⟩,
  ⟨some 11,none,.lenL (.t 10)⟩,
  ⟨some 12,none,.mv false (.t 1)⟩,
  ⟨some 13,none,.lenL (.t 12)⟩,
  ⟨some 14,none,.bin .neq (.t 11) (.t 13)⟩]
def slices_EqualFunc_antryparseStmtx_r2 : List LOper := [
  ⟨some 6,none,.mv false (.c (.bool false))⟩]
def slices_EqualFunc_antryparseStmtx_r3 : List LOper := [
  ⟨some 15,none,.mv false (.t 0)⟩,
  ⟨some 16,none,.lenL (.t 15)⟩,
  ⟨some 17,none,.mv false (.c (.int .i64 0))⟩]
def slices_EqualFunc_antryparseStmtx_r4 : List LOper := [
  ⟨some 18,none,.bin .lss (.t 17) (.t 16)⟩]
def slices_EqualFunc_antryparseStmtx_r5 : List LOper := [
  ⟨some 19,none,.mv false (.t 17)⟩,
  ⟨some 20,none,.indexAddr 1 (.t 15) (.t 17)⟩,
  ⟨some 21,none,.load false false 1 (.t 20)⟩,
  ⟨some 7,none,.mv false (.t 19)⟩,
  ⟨some 8,none,.mv false (.t 21)⟩]
def slices_EqualFunc_antryparseStmtx_r6 : List LOper := [
  ⟨some 22,none,.mv false (.t 1)⟩,
  ⟨some 23,none,.mv false (.t 7)⟩,
  ⟨some 24,none,.indexAddr 1 (.t 22) (.t 23)⟩,
  ⟨some 25,none,.load false false 1 (.t 24)⟩,
  ⟨some 9,none,.mv false (.t 25)⟩]
def slices_EqualFunc_antryparseStmtx_r7 : List LOper := [
  ⟨some 26,none,.mv false (.t 2)⟩,
  ⟨some 27,none,.mv false (.t 8)⟩,
  ⟨some 28,none,.mv false (.t 9)⟩,
  ⟨some 29,none,.callv (.t 26) [(.t 27),(.t 28)]⟩,
  ⟨some 30,none,.un .not (.t 29)⟩]
def slices_EqualFunc_antryparseStmtx_r8 : List LOper := [
  ⟨some 6,none,.mv false (.c (.bool false))⟩]
def slices_EqualFunc_antryparseStmtx_r9 : List LOper := [
  ⟨some 31,none,.bin .add (.t 17) (.c (.int .i64 1))⟩,
  ⟨some 17,none,.mv false (.t 31)⟩]
def slices_EqualFunc_antryparseStmtx_b0 : LCode := (.seq (.ops slices_EqualFunc_antryparseStmtx_r4) (.seq (.cond (.t 18) .skip (.exit 0)) (.seq (.block 1 (.seq (.ops slices_EqualFunc_antryparseStmtx_r5) (.seq (.ops slices_EqualFunc_antryparseStmtx_r6) (.seq (.ops slices_EqualFunc_antryparseStmtx_r7) (.cond (.t 30) (.seq (.ops slices_EqualFunc_antryparseStmtx_r8) .ret) .skip))))) (.ops slices_EqualFunc_antryparseStmtx_r9))))
def slices_EqualFunc_antryparseStmtx_r10 : List LOper := [
  ⟨some 6,none,.mv false (.c (.bool true))⟩]
def slices_EqualFunc_antryparseStmtx_f : LFunc := ⟨32,3,[.tmp 6],(.seq (.ops slices_EqualFunc_antryparseStmtx_r0) (.seq (.seq (.ops slices_EqualFunc_antryparseStmtx_r1) (.cond (.t 14) (.seq (.ops slices_EqualFunc_antryparseStmtx_r2) .ret) .skip)) (.seq (.seq (.ops slices_EqualFunc_antryparseStmtx_r3) (.block 0 (.loop [1,2,15,16,17] slices_EqualFunc_antryparseStmtx_b0))) (.seq (.ops slices_EqualFunc_antryparseStmtx_r10) .ret))))⟩
def slices_EqualFunc_antryparseStmtx_v : VFunc := ⟨slices_EqualFunc_antryparseStmtx_f,true,false,false⟩
theorem slices_EqualFunc_antryparseStmtx_ok : preFunc Tryz.prog ⟨[],[],[]⟩ Tryz.f55 [[1,2,15,16,17]] = some slices_EqualFunc_antryparseStmtx_f := by kernel_rfl

-- slices.Reverse[[]byte,byte]
def slices_Reverse_bytebyte_r0 : List LOper := [
  ⟨some 4,none,.mv false (.t 0)⟩,
  ⟨some 5,none,.lenL (.t 4)⟩,
  ⟨some 6,none,.bin .sub (.t 5) (.c (.int .i64 1))⟩,
  ⟨some 2,none,.mv false (.c (.int .i64 0))⟩,
  ⟨some 3,none,.mv false (.t 6)⟩]
def slices_Reverse_bytebyte_r1 : List LOper := [
  ⟨some 7,none,.mv false (.t 2)⟩,
  ⟨some 8,none,.mv false (.t 3)⟩,
  ⟨some 9,none,.bin .lss (.t 7) (.t 8)⟩]
def slices_Reverse_bytebyte_r2 : List LOper := [
  ⟨some 14,none,.mv false (.t 0)⟩,
  ⟨some 15,none,.mv false (.t 2)⟩,
  ⟨some 16,none,.mv false (.t 0)⟩,
  ⟨some 17,none,.mv false (.t 3)⟩,
  ⟨some 18,none,.mv false (.t 0)⟩,
  ⟨some 19,none,.mv false (.t 3)⟩,
  ⟨some 20,none,.indexAddr 1 (.t 18) (.t 19)⟩,
  ⟨some 21,none,.load false false 1 (.t 20)⟩,
  ⟨some 22,none,.mv false (.t 0)⟩,
  ⟨some 23,none,.mv false (.t 2)⟩,
  ⟨some 24,none,.indexAddr 1 (.t 22) (.t 23)⟩,
  ⟨some 25,none,.load false false 1 (.t 24)⟩,
  ⟨some 26,none,.indexAddr 1 (.t 14) (.t 15)⟩,
  ⟨none,none,.store 1 (.t 26) (.t 21)⟩,
  ⟨some 27,none,.indexAddr 1 (.t 16) (.t 17)⟩,
  ⟨none,none,.store 1 (.t 27) (.t 25)⟩]
theorem slices_Reverse_bytebyte_r2_d : drawC [0,0,0,0,0,0,48,112,0,0,768,1792,4083,8179,16383,32767] [
  ⟨some 14,none,.mv false (.t 0)⟩,
  ⟨some 15,none,.mv false (.t 2)⟩,
  ⟨some 16,none,.mv false (.t 0)⟩,
  ⟨some 17,none,.mv false (.t 3)⟩,
  ⟨some 18,none,.mv false (.t 0)⟩,
  ⟨some 19,none,.mv false (.t 3)⟩,
  ⟨some 20,none,.indexAddr 1 (.t 18) (.t 19)⟩,
  ⟨some 21,none,.load false false 1 (.t 20)⟩,
  ⟨some 22,none,.mv false (.t 0)⟩,
  ⟨some 23,none,.mv false (.t 2)⟩,
  ⟨some 24,none,.indexAddr 1 (.t 22) (.t 23)⟩,
  ⟨some 25,none,.load false false 1 (.t 24)⟩,
  ⟨some 26,none,.indexAddr 1 (.t 14) (.t 15)⟩,
  ⟨none,none,.store 1 (.t 26) (.t 21)⟩,
  ⟨some 27,none,.indexAddr 1 (.t 16) (.t 17)⟩,
  ⟨none,none,.store 1 (.t 27) (.t 25)⟩] = true := by kernel_rfl
def slices_Reverse_bytebyte_r3 : List LOper := [
  ⟨some 10,none,.mv false (.t 2)⟩,
  ⟨some 11,none,.bin .add (.t 10) (.c (.int .i64 1))⟩,
  ⟨some 12,none,.mv false (.t 3)⟩,
  ⟨some 13,none,.bin .sub (.t 12) (.c (.int .i64 1))⟩,
  ⟨some 2,none,.mv false (.t 11)⟩,
  ⟨some 3,none,.mv false (.t 13)⟩]
def slices_Reverse_bytebyte_b0 : LCode := (.seq (.seq (.ops slices_Reverse_bytebyte_r1) (.cond (.t 9) .skip (.exit 0))) (.seq (.block 1 (.dops [0,0,0,0,0,0,48,112,0,0,768,1792,4083,8179,16383,32767] slices_Reverse_bytebyte_r2)) (.ops slices_Reverse_bytebyte_r3)))
def slices_Reverse_bytebyte_f : LFunc := ⟨28,1,[],(.seq (.ops slices_Reverse_bytebyte_r0) (.block 0 (.loop [0,2,3] slices_Reverse_bytebyte_b0)))⟩
def slices_Reverse_bytebyte_v : VFunc := ⟨slices_Reverse_bytebyte_f,true,false,false⟩
theorem slices_Reverse_bytebyte_ok : preFunc Tryz.prog ⟨[],[],[]⟩ Tryz.f56 [[0,2,3]] = some slices_Reverse_bytebyte_f := by kernel_rfl

-- strings.Cut
def strings_Cut_r0 : List LOper := [
  ⟨some 4,none,.mv false (.c (.str []))⟩,
  ⟨some 5,none,.mv false (.c (.str []))⟩,
  ⟨some 6,none,.mv false (.c (.bool false))⟩]
def strings_Cut_r1 : List LOper := [
  ⟨some 7,none,.mv false (.t 0)⟩,
  ⟨some 8,none,.mv false (.t 1)⟩,
  ⟨some 9,none,.call false 70 [(.t 7),(.t 8)]⟩,
  ⟨some 10,none,.extract 0 (.t 9)⟩,
  ⟨some 11,none,.extract 1 (.t 9)⟩,
  ⟨some 12,none,.extract 2 (.t 9)⟩,
  ⟨some 4,none,.mv false (.t 10)⟩,
  ⟨some 5,none,.mv false (.t 11)⟩,
  ⟨some 6,none,.mv false (.t 12)⟩]
def strings_Cut_f : LFunc := ⟨13,2,[.tmp 4,.tmp 5,.tmp 6],(.seq (.ops strings_Cut_r0) (.seq (.ops strings_Cut_r1) .ret))⟩
def strings_Cut_v : VFunc := ⟨strings_Cut_f,true,false,false⟩
theorem strings_Cut_ok : preFunc Tryz.prog ⟨[],[],[]⟩ Tryz.f57 [] = some strings_Cut_f := by kernel_rfl

-- gantry/word.digits
def word_digits_r0 : List LOper := [
  ⟨some 2,none,.mv false (.c (.bool false))⟩]
def word_digits_r1 : List LOper := [
  ⟨some 4,none,.mv false (.t 0)⟩,
  ⟨some 5,none,.lenS (.t 4)⟩,
  ⟨some 6,none,.bin .eql (.t 5) (.c (.int .i64 0))⟩,
  ⟨some 7,none,.mv false (.t 6)⟩,
  ⟨some 8,some (7,false),.mv false (.t 0)⟩,
  ⟨some 9,some (7,false),.lenS (.t 8)⟩,
  ⟨some 10,some (7,false),.bin .gtr (.t 9) (.c (.int .i64 9))⟩,
  ⟨some 11,none,.pick (.t 7) (.c (.bool true)) (.t 10)⟩]
def word_digits_r2 : List LOper := [
  ⟨some 2,none,.mv false (.c (.bool false))⟩]
def word_digits_r3 : List LOper := [
  ⟨some 12,none,.mv false (.t 0)⟩,
  ⟨some 13,none,.lenS (.t 12)⟩,
  ⟨some 14,none,.mv false (.c (.int .i64 0))⟩]
def word_digits_r4 : List LOper := [
  ⟨some 15,none,.bin .lss (.t 14) (.t 13)⟩]
def word_digits_r5 : List LOper := [
  ⟨some 16,none,.mv false (.t 14)⟩,
  ⟨some 3,none,.mv false (.t 16)⟩]
def word_digits_r6 : List LOper := [
  ⟨some 17,none,.mv false (.t 0)⟩,
  ⟨some 18,none,.mv false (.t 3)⟩,
  ⟨some 19,none,.index (.t 17) (.t 18)⟩,
  ⟨some 20,none,.call false 41 [(.t 19)]⟩,
  ⟨some 21,none,.un .not (.t 20)⟩]
def word_digits_r7 : List LOper := [
  ⟨some 2,none,.mv false (.c (.bool false))⟩]
def word_digits_r8 : List LOper := [
  ⟨some 22,none,.bin .add (.t 14) (.c (.int .i64 1))⟩,
  ⟨some 14,none,.mv false (.t 22)⟩]
def word_digits_b0 : LCode := (.seq (.ops word_digits_r4) (.seq (.cond (.t 15) .skip (.exit 0)) (.seq (.block 1 (.seq (.ops word_digits_r5) (.seq (.ops word_digits_r6) (.cond (.t 21) (.seq (.ops word_digits_r7) .ret) .skip)))) (.ops word_digits_r8))))
def word_digits_r9 : List LOper := [
  ⟨some 2,none,.mv false (.c (.bool true))⟩]
def word_digits_f : LFunc := ⟨23,1,[.tmp 2],(.seq (.ops word_digits_r0) (.seq (.seq (.ops word_digits_r1) (.cond (.t 11) (.seq (.ops word_digits_r2) .ret) .skip)) (.seq (.seq (.ops word_digits_r3) (.block 0 (.loop [0,13,14] word_digits_b0))) (.seq (.ops word_digits_r9) .ret))))⟩
def word_digits_v : VFunc := ⟨word_digits_f,true,false,false⟩
theorem word_digits_ok : preFunc Tryz.prog ⟨[],[],[]⟩ Tryz.f58 [[0,13,14]] = some word_digits_f := by kernel_rfl

-- slices.Index[[]string,string]
def slices_Index_stringstring_r0 : List LOper := [
  ⟨some 4,none,.mv false (.c (.int .i64 0))⟩]
def slices_Index_stringstring_r1 : List LOper := [
  ⟨some 6,none,.mv false (.t 0)⟩,
  ⟨some 7,none,.lenL (.t 6)⟩,
  ⟨some 8,none,.mv false (.c (.int .i64 0))⟩]
def slices_Index_stringstring_r2 : List LOper := [
  ⟨some 9,none,.bin .lss (.t 8) (.t 7)⟩]
def slices_Index_stringstring_r3 : List LOper := [
  ⟨some 10,none,.mv false (.t 8)⟩,
  ⟨some 5,none,.mv false (.t 10)⟩]
def slices_Index_stringstring_r4 : List LOper := [
  ⟨some 11,none,.mv false (.t 1)⟩,
  ⟨some 12,none,.mv false (.t 0)⟩,
  ⟨some 13,none,.mv false (.t 5)⟩,
  ⟨some 14,none,.indexAddr 1 (.t 12) (.t 13)⟩,
  ⟨some 15,none,.load false false 1 (.t 14)⟩,
  ⟨some 16,none,.bin .eql (.t 11) (.t 15)⟩]
def slices_Index_stringstring_r5 : List LOper := [
  ⟨some 17,none,.mv false (.t 5)⟩,
  ⟨some 4,none,.mv false (.t 17)⟩]
def slices_Index_stringstring_r6 : List LOper := [
  ⟨some 18,none,.bin .add (.t 8) (.c (.int .i64 1))⟩,
  ⟨some 8,none,.mv false (.t 18)⟩]
def slices_Index_stringstring_b0 : LCode := (.seq (.ops slices_Index_stringstring_r2) (.seq (.cond (.t 9) .skip (.exit 0)) (.seq (.block 1 (.seq (.ops slices_Index_stringstring_r3) (.seq (.ops slices_Index_stringstring_r4) (.cond (.t 16) (.seq (.ops slices_Index_stringstring_r5) .ret) .skip)))) (.ops slices_Index_stringstring_r6))))
def slices_Index_stringstring_r7 : List LOper := [
  ⟨some 4,none,.mv false (.c (.int .i64 (-1)))⟩]
def slices_Index_stringstring_f : LFunc := ⟨19,2,[.tmp 4],(.seq (.ops slices_Index_stringstring_r0) (.seq (.seq (.ops slices_Index_stringstring_r1) (.block 0 (.loop [0,1,7,8] slices_Index_stringstring_b0))) (.seq (.ops slices_Index_stringstring_r7) .ret)))⟩
def slices_Index_stringstring_v : VFunc := ⟨slices_Index_stringstring_f,true,false,false⟩
theorem slices_Index_stringstring_ok : preFunc Tryz.prog ⟨[],[],[]⟩ Tryz.f59 [[0,1,7,8]] = some slices_Index_stringstring_f := by kernel_rfl

-- gantry/parse.keywordWithin
def parse_keywordWithin_r0 : List LOper := [
  ⟨some 2,none,.mv false (.c (.bool false))⟩]
def parse_keywordWithin_r1 : List LOper := [
  ⟨some 3,none,.mv false (.t 0)⟩]
def parse_keywordWithin_r2 : List LOper := [
  ⟨some 5,none,.bin .eql (.t 3) (.c (.str [106,111,98]))⟩,
  ⟨some 4,none,.mv false (.t 5)⟩]
def parse_keywordWithin_r3 : List LOper := [
  ⟨some 6,none,.bin .eql (.t 3) (.c (.str [105,110]))⟩,
  ⟨some 4,none,.mv false (.t 6)⟩]
def parse_keywordWithin_r4 : List LOper := [
  ⟨some 7,none,.bin .eql (.t 3) (.c (.str [119,105,116,104,105,110]))⟩,
  ⟨some 4,none,.mv false (.t 7)⟩]
def parse_keywordWithin_r5 : List LOper := [
  ⟨some 8,none,.bin .eql (.t 3) (.c (.str [119,105,116,104]))⟩,
  ⟨some 4,none,.mv false (.t 8)⟩]
def parse_keywordWithin_r6 : List LOper := [
  ⟨some 9,none,.bin .eql (.t 3) (.c (.str [111,114]))⟩,
  ⟨some 4,none,.mv false (.t 9)⟩]
def parse_keywordWithin_r7 : List LOper := [
  ⟨some 10,none,.bin .eql (.t 3) (.c (.str [101,108,115,101]))⟩,
  ⟨some 4,none,.mv false (.t 10)⟩]
def parse_keywordWithin_r8 : List LOper := [
  ⟨some 2,none,.mv false (.c (.bool true))⟩]
def parse_keywordWithin_r9 : List LOper := [
  ⟨some 2,none,.mv false (.c (.bool false))⟩]
def parse_keywordWithin_f : LFunc := ⟨11,1,[.tmp 2],(.seq (.ops parse_keywordWithin_r0) (.seq (.seq (.ops parse_keywordWithin_r1) (.block 0 (.seq (.seq (.ops parse_keywordWithin_r2) (.cond (.t 4) .skip (.seq (.ops parse_keywordWithin_r3) (.cond (.t 4) .skip (.seq (.ops parse_keywordWithin_r4) (.cond (.t 4) .skip (.seq (.ops parse_keywordWithin_r5) (.cond (.t 4) .skip (.seq (.ops parse_keywordWithin_r6) (.cond (.t 4) .skip (.ops parse_keywordWithin_r7))))))))))) (.cond (.t 4) (.seq (.ops parse_keywordWithin_r8) .ret) .skip)))) (.seq (.ops parse_keywordWithin_r9) .ret)))⟩
def parse_keywordWithin_v : VFunc := ⟨parse_keywordWithin_f,true,false,false⟩
theorem parse_keywordWithin_ok : preFunc Tryz.prog ⟨[],[],[]⟩ Tryz.f60 [] = some parse_keywordWithin_f := by kernel_rfl

-- strconv.ParseInt
def strconv_ParseInt_r0 : List LOper := [
  ⟨some 6,none,.mv false (.c (.int .i64 0))⟩,
  ⟨some 7,none,.mv false (.c (.nilif))⟩]
def strconv_ParseInt_r1 : List LOper := [
  ⟨some 10,none,.mv false (.t 0)⟩,
  ⟨some 11,none,.mv false (.t 1)⟩,
  ⟨some 12,none,.mv false (.t 2)⟩,
  ⟨some 13,none,.call false 71 [(.t 10),(.t 11),(.t 12)]⟩,
  ⟨some 9,none,.mv false (.t 13)⟩,
  ⟨some 14,none,.extract 0 (.t 9)⟩,
  ⟨some 15,none,.extract 1 (.t 9)⟩,
  ⟨some 8,none,.mv false (.t 14)⟩,
  ⟨some 7,none,.mv false (.t 15)⟩]
def strconv_ParseInt_r2 : List LOper := [
  ⟨some 16,none,.mv false (.t 7)⟩,
  ⟨some 17,none,.eqv true .iface (.t 16) (.c (.nilif))⟩]
def strconv_ParseInt_r3 : List LOper := [
  ⟨some 18,none,.mv false (.t 8)⟩,
  ⟨some 19,none,.mv false (.t 0)⟩,
  ⟨some 20,none,.mv false (.t 1)⟩,
  ⟨some 21,none,.mv false (.t 2)⟩,
  ⟨some 22,none,.mv false (.t 7)⟩,
  ⟨some 23,none,.call false 72 [(.c (.str [80,97,114,115,101,73,110,116])),(.t 19),(.t 20),(.t 21),(.t 22)]⟩,
  ⟨some 6,none,.mv false (.t 18)⟩,
  ⟨some 7,none,.mv false (.t 23)⟩]
def strconv_ParseInt_r4 : List LOper := [
  ⟨some 24,none,.mv false (.t 8)⟩,
  ⟨some 6,none,.mv false (.t 24)⟩,
  ⟨some 7,none,.mv false (.c (.nilif))⟩]
def strconv_ParseInt_f : LFunc := ⟨25,3,[.tmp 6,.tmp 7],(.seq (.ops strconv_ParseInt_r0) (.seq (.ops strconv_ParseInt_r1) (.seq (.seq (.ops strconv_ParseInt_r2) (.cond (.t 17) (.seq (.ops strconv_ParseInt_r3) .ret) .skip)) (.seq (.ops strconv_ParseInt_r4) .ret))))⟩
def strconv_ParseInt_v : VFunc := ⟨strconv_ParseInt_f,true,false,false⟩
theorem strconv_ParseInt_ok : preFunc Tryz.prog ⟨[],[],[]⟩ Tryz.f61 [] = some strconv_ParseInt_f := by kernel_rfl

-- (*gantry/parse.reader).within
def parse_reader_within_r0 : List LOper := [
  ⟨some 2,none,.alloc [.bool false,.str [],.str []]⟩,
  ⟨some 3,none,.mv false (.c (.bool false))⟩]
def parse_reader_within_r1 : List LOper := [
  ⟨some 6,none,.mv false (.t 0)⟩,
  ⟨some 7,none,.nilchk (.t 6)⟩,
  ⟨some 8,none,.fieldAddr 0 (.t 7)⟩,
  ⟨some 9,none,.load false false 1 (.t 8)⟩,
  ⟨some 10,none,.lenL (.t 9)⟩,
  ⟨some 11,none,.bin .eql (.t 10) (.c (.int .i64 0))⟩,
  ⟨some 12,none,.mv false (.t 11)⟩,
  ⟨some 13,some (12,false),.mv false (.t 0)⟩,
  ⟨some 14,some (12,false),.nilchk (.t 13)⟩,
  ⟨some 15,some (12,false),.fieldAddr 0 (.t 14)⟩,
  ⟨some 16,some (12,false),.load false false 1 (.t 15)⟩,
  ⟨some 17,some (12,false),.indexAddr 3 (.t 16) (.c (.int .i64 0))⟩,
  ⟨some 18,some (12,false),.fieldAddr 0 (.t 17)⟩,
  ⟨some 19,some (12,false),.load false false 1 (.t 18)⟩,
  ⟨some 20,some (12,false),.bin .neq (.t 19) (.c (.int .i64 2))⟩,
  ⟨some 21,none,.pick (.t 12) (.c (.bool true)) (.t 20)⟩]
def parse_reader_within_r2 : List LOper := [
  ⟨some 22,none,.build [.bool false,.str [],.str []] []⟩,
  ⟨none,none,.store 3 (.t 2) (.t 22)⟩,
  ⟨some 3,none,.mv false (.c (.bool false))⟩]
def parse_reader_within_r3 : List LOper := [
  ⟨some 24,none,.mv false (.t 0)⟩,
  ⟨some 25,none,.nilchk (.t 24)⟩,
  ⟨some 26,none,.fieldAddr 0 (.t 25)⟩,
  ⟨some 27,none,.load false false 1 (.t 26)⟩,
  ⟨some 28,none,.indexAddr 3 (.t 27) (.c (.int .i64 0))⟩,
  ⟨some 29,none,.fieldAddr 2 (.t 28)⟩,
  ⟨some 30,none,.load false false 1 (.t 29)⟩,
  ⟨some 31,none,.call false 73 [(.t 30)]⟩,
  ⟨some 23,none,.mv false (.t 31)⟩,
  ⟨some 32,none,.extract 0 (.t 23)⟩,
  ⟨some 33,none,.extract 1 (.t 23)⟩,
  ⟨some 4,none,.alloc [.bool false,.str [],.str []]⟩,
  ⟨none,none,.store 3 (.t 4) (.t 32)⟩,
  ⟨some 5,none,.mv false (.t 33)⟩]
def parse_reader_within_r4 : List LOper := [
  ⟨some 34,none,.mv false (.t 5)⟩,
  ⟨some 35,none,.bin .neq (.t 34) (.c (.int .i64 0))⟩,
  ⟨some 36,none,.mv false (.t 35)⟩,
  ⟨some 37,some (36,false),.load false true 3 (.t 4)⟩,
  ⟨some 38,some (36,false),.call true 51 [(.t 37)]⟩,
  ⟨some 39,some (36,false),.mv false (.t 0)⟩,
  ⟨some 40,some (36,false),.nilchk (.t 39)⟩,
  ⟨some 41,some (36,false),.fieldAddr 0 (.t 40)⟩,
  ⟨some 42,some (36,false),.load false false 1 (.t 41)⟩,
  ⟨some 43,some (36,false),.indexAddr 3 (.t 42) (.c (.int .i64 0))⟩,
  ⟨some 44,some (36,false),.fieldAddr 2 (.t 43)⟩,
  ⟨some 45,some (36,false),.load false false 1 (.t 44)⟩,
  ⟨some 46,some (36,false),.bin .neq (.t 38) (.t 45)⟩,
  ⟨some 47,none,.pick (.t 36) (.c (.bool true)) (.t 46)⟩]
theorem parse_reader_within_r4_d : drawC [0,1,3,7,15,7,39,103,231,487,999,2023,4095,8191] [
  ⟨some 34,none,.mv false (.t 5)⟩,
  ⟨some 35,none,.bin .neq (.t 34) (.c (.int .i64 0))⟩,
  ⟨some 36,none,.mv false (.t 35)⟩,
  ⟨some 37,some (36,false),.load false true 3 (.t 4)⟩,
  ⟨some 38,some (36,false),.call true 51 [(.t 37)]⟩,
  ⟨some 39,some (36,false),.mv false (.t 0)⟩,
  ⟨some 40,some (36,false),.nilchk (.t 39)⟩,
  ⟨some 41,some (36,false),.fieldAddr 0 (.t 40)⟩,
  ⟨some 42,some (36,false),.load false false 1 (.t 41)⟩,
  ⟨some 43,some (36,false),.indexAddr 3 (.t 42) (.c (.int .i64 0))⟩,
  ⟨some 44,some (36,false),.fieldAddr 2 (.t 43)⟩,
  ⟨some 45,some (36,false),.load false false 1 (.t 44)⟩,
  ⟨some 46,some (36,false),.bin .neq (.t 38) (.t 45)⟩,
  ⟨some 47,none,.pick (.t 36) (.c (.bool true)) (.t 46)⟩] = true := by kernel_rfl
def parse_reader_within_r5 : List LOper := [
  ⟨some 48,none,.build [.bool false,.str [],.str []] []⟩,
  ⟨none,none,.store 3 (.t 2) (.t 48)⟩,
  ⟨some 3,none,.mv false (.c (.bool false))⟩]
def parse_reader_within_r6 : List LOper := [
  ⟨some 49,none,.mv false (.t 0)⟩,
  ⟨some 50,none,.mv false (.t 0)⟩,
  ⟨some 51,none,.nilchk (.t 50)⟩,
  ⟨some 52,none,.fieldAddr 0 (.t 51)⟩,
  ⟨some 53,none,.load false false 1 (.t 52)⟩,
  ⟨some 54,none,.slc 3 (.t 53) (some (.c (.int .i64 1))) none none⟩,
  ⟨some 55,none,.nilchk (.t 49)⟩,
  ⟨some 56,none,.fieldAddr 0 (.t 55)⟩,
  ⟨none,none,.store 1 (.t 56) (.t 54)⟩]
def parse_reader_within_r7 : List LOper := [
  ⟨some 57,none,.load false true 3 (.t 4)⟩,
  ⟨none,none,.store 3 (.t 2) (.t 57)⟩,
  ⟨some 3,none,.mv false (.c (.bool true))⟩]
def parse_reader_within_f : LFunc := ⟨58,1,[.cell 2 true 3,.tmp 3],(.seq (.ops parse_reader_within_r0) (.seq (.seq (.ops parse_reader_within_r1) (.cond (.t 21) (.seq (.ops parse_reader_within_r2) .ret) .skip)) (.seq (.ops parse_reader_within_r3) (.seq (.seq (.dops [0,1,3,7,15,7,39,103,231,487,999,2023,4095,8191] parse_reader_within_r4) (.cond (.t 47) (.seq (.ops parse_reader_within_r5) .ret) .skip)) (.seq (.ops parse_reader_within_r6) (.seq (.ops parse_reader_within_r7) .ret))))))⟩
def parse_reader_within_v : VFunc := ⟨parse_reader_within_f,false,false,false⟩
theorem parse_reader_within_ok : preFunc Tryz.prog ⟨[],[],[38]⟩ Tryz.f62 [] = some parse_reader_within_f := by kernel_rfl

-- gantry/parse.plain
def parse_plain_r0 : List LOper := [
  ⟨some 1,none,.box (.t 0)⟩,
  ⟨some 2,none,.mv false (.c (.int .i64 0))⟩]
def parse_plain_r1 : List LOper := [
  ⟨some 5,none,.build [.bool false,.str [],.str []] []⟩,
  ⟨some 3,none,.alloc [.bool false,.str [],.str []]⟩,
  ⟨none,none,.store 3 (.t 3) (.t 5)⟩]
def parse_plain_r2 : List LOper := [
  ⟨some 6,none,.fieldAddr 7 (.t 1)⟩,
  ⟨some 7,none,.load false false 1 (.t 6)⟩,
  ⟨some 8,none,.lenL (.t 7)⟩,
  ⟨some 9,none,.bin .neq (.t 8) (.c (.int .i64 0))⟩,
  ⟨some 10,none,.mv false (.t 9)⟩,
  ⟨some 11,some (10,false),.fieldAddr 0 (.t 1)⟩,
  ⟨some 12,some (10,false),.load false false 1 (.t 11)⟩,
  ⟨some 13,some (10,false),.bin .neq (.t 12) (.c (.int .i64 1))⟩,
  ⟨some 14,some (10,false),.mv false (.t 13)⟩,
  ⟨some 15,some (14,true),.fieldAddr 3 (.t 1)⟩,
  ⟨some 16,some (14,true),.load false true 3 (.t 15)⟩,
  ⟨some 17,some (14,true),.load false true 3 (.t 3)⟩,
  ⟨some 18,some (14,true),.eqv true (.struct [.b,.s,.s]) (.t 16) (.t 17)⟩,
  ⟨some 19,some (10,false),.pick (.t 14) (.t 18) (.c (.bool false))⟩,
  ⟨some 20,none,.pick (.t 10) (.c (.bool true)) (.t 19)⟩,
  ⟨some 21,none,.mv false (.t 20)⟩,
  ⟨some 22,some (21,false),.fieldAddr 0 (.t 1)⟩,
  ⟨some 23,some (21,false),.load false false 1 (.t 22)⟩,
  ⟨some 24,some (21,false),.bin .neq (.t 23) (.c (.int .i64 5))⟩,
  ⟨some 25,some (21,false),.mv false (.t 24)⟩,
  ⟨some 26,some (25,true),.fieldAddr 6 (.t 1)⟩,
  ⟨some 27,some (25,true),.load false false 1 (.t 26)⟩,
  ⟨some 28,some (25,true),.bin .neq (.t 27) (.c (.int .i64 0))⟩,
  ⟨some 29,some (21,false),.pick (.t 25) (.t 28) (.c (.bool false))⟩,
  ⟨some 30,none,.pick (.t 21) (.c (.bool true)) (.t 29)⟩]
def parse_plain_r3 : List LOper := [
  ⟨some 2,none,.mv false (.c (.int .i64 3))⟩]
def parse_plain_r4 : List LOper := [
  ⟨some 31,none,.fieldAddr 0 (.t 1)⟩,
  ⟨some 32,none,.load false false 1 (.t 31)⟩,
  ⟨some 33,none,.bin .eql (.t 32) (.c (.int .i64 1))⟩,
  ⟨some 34,none,.mv false (.t 33)⟩,
  ⟨some 35,some (34,false),.fieldAddr 0 (.t 1)⟩,
  ⟨some 36,some (34,false),.load false false 1 (.t 35)⟩,
  ⟨some 37,some (34,false),.bin .eql (.t 36) (.c (.int .i64 2))⟩,
  ⟨some 38,none,.pick (.t 34) (.c (.bool true)) (.t 37)⟩,
  ⟨some 4,none,.mv false (.t 38)⟩]
def parse_plain_r5 : List LOper := [
  ⟨some 39,none,.fieldAddr 0 (.t 1)⟩,
  ⟨some 40,none,.load false false 1 (.t 39)⟩,
  ⟨some 41,none,.bin .eql (.t 40) (.c (.int .i64 5))⟩,
  ⟨some 42,none,.mv false (.t 41)⟩,
  ⟨some 43,some (42,true),.fieldAddr 1 (.t 1)⟩,
  ⟨some 44,some (42,true),.load false false 1 (.t 43)⟩,
  ⟨some 45,some (42,true),.bin .neq (.t 44) (.c (.str []))⟩,
  ⟨some 46,none,.pick (.t 42) (.t 45) (.c (.bool false))⟩,
  ⟨some 47,none,.mv false (.t 46)⟩,
  ⟨some 48,some (47,false),.fieldAddr 0 (.t 1)⟩,
  ⟨some 49,some (47,false),.load false false 1 (.t 48)⟩,
  ⟨some 50,some (47,false),.bin .neq (.t 49) (.c (.int .i64 5))⟩,
  ⟨some 51,some (47,false),.mv false (.t 50)⟩,
  ⟨some 52,some (51,true),.fieldAddr 1 (.t 1)⟩,
  ⟨some 53,some (51,true),.load false false 1 (.t 52)⟩,
  ⟨some 54,some (51,true),.call false 27 [(.t 53)]⟩,
  ⟨some 55,some (51,true),.un .not (.t 54)⟩,
  ⟨some 56,some (47,false),.pick (.t 51) (.t 55) (.c (.bool false))⟩,
  ⟨some 57,none,.pick (.t 47) (.c (.bool true)) (.t 56)⟩,
  ⟨some 58,none,.mv false (.t 57)⟩,
  ⟨some 59,some (58,false),.mv false (.t 4)⟩,
  ⟨some 60,some (58,false),.mv false (.t 59)⟩,
  ⟨some 61,some (60,true),.fieldAddr 2 (.t 1)⟩,
  ⟨some 62,some (60,true),.load false false 1 (.t 61)⟩,
  ⟨some 63,some (60,true),.call false 27 [(.t 62)]⟩,
  ⟨some 64,some (60,true),.un .not (.t 63)⟩,
  ⟨some 65,some (58,false),.pick (.t 60) (.t 64) (.c (.bool false))⟩,
  ⟨some 66,none,.pick (.t 58) (.c (.bool true)) (.t 65)⟩,
  ⟨some 67,none,.mv false (.t 66)⟩,
  ⟨some 68,some (67,false),.mv false (.t 4)⟩,
  ⟨some 69,some (67,false),.un .not (.t 68)⟩,
  ⟨some 70,some (67,false),.mv false (.t 69)⟩,
  ⟨some 71,some (70,true),.fieldAddr 2 (.t 1)⟩,
  ⟨some 72,some (70,true),.load false false 1 (.t 71)⟩,
  ⟨some 73,some (70,true),.bin .neq (.t 72) (.c (.str []))⟩,
  ⟨some 74,some (67,false),.pick (.t 70) (.t 73) (.c (.bool false))⟩,
  ⟨some 75,none,.pick (.t 67) (.c (.bool true)) (.t 74)⟩]
def parse_plain_r6 : List LOper := [
  ⟨some 2,none,.mv false (.c (.int .i64 3))⟩]
def parse_plain_r7 : List LOper := [
  ⟨some 76,none,.fieldAddr 0 (.t 1)⟩,
  ⟨some 77,none,.load false false 1 (.t 76)⟩,
  ⟨some 78,none,.bin .eql (.t 77) (.c (.int .i64 1))⟩,
  ⟨some 79,none,.mv false (.t 78)⟩,
  ⟨some 80,some (79,true),.fieldAddr 3 (.t 1)⟩,
  ⟨some 81,some (79,true),.load false true 3 (.t 80)⟩,
  ⟨some 82,some (79,true),.load false true 3 (.t 3)⟩,
  ⟨some 83,some (79,true),.eqv true (.struct [.b,.s,.s]) (.t 81) (.t 82)⟩,
  ⟨some 84,none,.pick (.t 79) (.t 83) (.c (.bool false))⟩,
  ⟨some 85,none,.mv false (.t 84)⟩,
  ⟨some 86,some (85,true),.fieldAddr 3 (.t 1)⟩,
  ⟨some 87,some (85,true),.load false true 3 (.t 86)⟩,
  ⟨some 88,some (85,true),.call false 74 [(.t 87)]⟩,
  ⟨some 89,some (85,true),.un .not (.t 88)⟩,
  ⟨some 90,some (85,true),.mv false (.t 89)⟩,
  ⟨some 91,some (90,false),.fieldAddr 3 (.t 1)⟩,
  ⟨some 92,some (90,false),.load false true 3 (.t 91)⟩,
  ⟨some 93,some (90,false),.call false 75 [(.t 92)]⟩,
  ⟨some 94,some (90,false),.bin .leq (.t 93) (.c (.int .i64 0))⟩,
  ⟨some 95,some (85,true),.pick (.t 90) (.c (.bool true)) (.t 94)⟩,
  ⟨some 96,some (85,true),.mv false (.t 95)⟩,
  ⟨some 97,some (96,false),.fieldAddr 3 (.t 1)⟩,
  ⟨some 98,some (96,false),.load false true 3 (.t 97)⟩,
  ⟨some 99,some (96,false),.call false 76 [(.t 98)]⟩,
  ⟨some 100,some (96,false),.un .not (.t 99)⟩,
  ⟨some 101,some (85,true),.pick (.t 96) (.c (.bool true)) (.t 100)⟩,
  ⟨some 102,none,.pick (.t 85) (.t 101) (.c (.bool false))⟩]
def parse_plain_r8 : List LOper := [
  ⟨some 2,none,.mv false (.c (.int .i64 3))⟩]
def parse_plain_r9 : List LOper := [
  ⟨some 103,none,.fieldAddr 0 (.t 1)⟩,
  ⟨some 104,none,.load false false 1 (.t 103)⟩,
  ⟨some 105,none,.bin .eql (.t 104) (.c (.int .i64 5))⟩,
  ⟨some 106,none,.mv false (.t 105)⟩,
  ⟨some 107,some (106,true),.fieldAddr 6 (.t 1)⟩,
  ⟨some 108,some (106,true),.load false false 1 (.t 107)⟩,
  ⟨some 109,some (106,true),.bin .lss (.t 108) (.c (.int .i64 1))⟩,
  ⟨some 110,some (106,true),.mv false (.t 109)⟩,
  ⟨some 111,some (110,false),.fieldAddr 6 (.t 1)⟩,
  ⟨some 112,some (110,false),.load false false 1 (.t 111)⟩,
  ⟨some 113,some (110,false),.bin .gtr (.t 112) (.c (.int .i64 2000))⟩,
  ⟨some 114,some (106,true),.pick (.t 110) (.c (.bool true)) (.t 113)⟩,
  ⟨some 115,none,.pick (.t 106) (.t 114) (.c (.bool false))⟩]
def parse_plain_r10 : List LOper := [
  ⟨some 2,none,.mv false (.c (.int .i64 1))⟩]
def parse_plain_r11 : List LOper := [
  ⟨some 2,none,.mv false (.c (.int .i64 0))⟩]
def parse_plain_f : LFunc := ⟨116,1,[.tmp 2],(.seq (.ops parse_plain_r0) (.seq (.ops parse_plain_r1) (.seq (.seq (.ops parse_plain_r2) (.cond (.t 30) (.seq (.ops parse_plain_r3) .ret) .skip)) (.seq (.ops parse_plain_r4) (.seq (.seq (.ops parse_plain_r5) (.cond (.t 75) (.seq (.ops parse_plain_r6) .ret) .skip)) (.seq (.seq (.ops parse_plain_r7) (.cond (.t 102) (.seq (.ops parse_plain_r8) .ret) .skip)) (.seq (.seq (.ops parse_plain_r9) (.cond (.t 115) (.seq (.ops parse_plain_r10) .ret) .skip)) (.seq (.ops parse_plain_r11) .ret))))))))⟩
def parse_plain_v : VFunc := ⟨parse_plain_f,true,false,false⟩
theorem parse_plain_ok : preFunc Tryz.prog ⟨[],[],[]⟩ Tryz.f63 [] = some parse_plain_f := by kernel_rfl

-- gantry/parse.shape
def parse_shape_r0 : List LOper := [
  ⟨some 1,none,.box (.t 0)⟩,
  ⟨some 2,none,.mv false (.c (.int .i64 0))⟩]
def parse_shape_r1 : List LOper := [
  ⟨some 5,none,.fieldAddr 1 (.t 1)⟩,
  ⟨some 6,none,.load false false 1 (.t 5)⟩,
  ⟨some 7,none,.bin .neq (.t 6) (.c (.str []))⟩,
  ⟨some 8,none,.mv false (.t 7)⟩,
  ⟨some 9,some (8,false),.fieldAddr 2 (.t 1)⟩,
  ⟨some 10,some (8,false),.load false false 1 (.t 9)⟩,
  ⟨some 11,some (8,false),.bin .neq (.t 10) (.c (.str []))⟩,
  ⟨some 12,none,.pick (.t 8) (.c (.bool true)) (.t 11)⟩,
  ⟨some 13,none,.mv false (.t 12)⟩,
  ⟨some 14,some (13,false),.fieldAddr 3 (.t 1)⟩,
  ⟨some 15,some (13,false),.load false true 3 (.t 14)⟩,
  ⟨some 16,some (13,false),.build [.bool false,.str [],.str []] []⟩,
  ⟨some 17,some (13,false),.eqv true (.struct [.b,.s,.s]) (.t 15) (.t 16)⟩,
  ⟨some 18,none,.pick (.t 13) (.c (.bool true)) (.t 17)⟩,
  ⟨some 19,none,.mv false (.t 18)⟩,
  ⟨some 20,some (19,false),.fieldAddr 0 (.t 1)⟩,
  ⟨some 21,some (19,false),.load false false 1 (.t 20)⟩,
  ⟨some 22,some (19,false),.bin .neq (.t 21) (.c (.int .i64 7))⟩,
  ⟨some 23,some (19,false),.mv false (.t 22)⟩,
  ⟨some 24,some (23,true),.fieldAddr 6 (.t 1)⟩,
  ⟨some 25,some (23,true),.load false false 1 (.t 24)⟩,
  ⟨some 26,some (23,true),.bin .neq (.t 25) (.c (.int .i64 0))⟩,
  ⟨some 27,some (19,false),.pick (.t 23) (.t 26) (.c (.bool false))⟩,
  ⟨some 28,none,.pick (.t 19) (.c (.bool true)) (.t 27)⟩]
def parse_shape_r2 : List LOper := [
  ⟨some 2,none,.mv false (.c (.int .i64 3))⟩]
def parse_shape_r3 : List LOper := [
  ⟨some 3,none,.mv false (.c (.int .i64 1))⟩,
  ⟨some 4,none,.mv false (.c (.int .i64 1))⟩]
def parse_shape_r4 : List LOper := [
  ⟨some 29,none,.fieldAddr 0 (.t 1)⟩,
  ⟨some 30,none,.load false false 1 (.t 29)⟩]
def parse_shape_r5 : List LOper := [
  ⟨some 32,none,.bin .eql (.t 30) (.c (.int .i64 8))⟩,
  ⟨some 31,none,.mv false (.t 32)⟩]
def parse_shape_r6 : List LOper := [
  ⟨some 4,none,.mv false (.c (.int .i64 4))⟩]
def parse_shape_r7 : List LOper := [
  ⟨some 34,none,.bin .eql (.t 30) (.c (.int .i64 9))⟩,
  ⟨some 33,none,.mv false (.t 34)⟩]
def parse_shape_r8 : List LOper := [
  ⟨some 3,none,.mv false (.c (.int .i64 2))⟩,
  ⟨some 4,none,.mv false (.c (.int .i64 2))⟩]
def parse_shape_r9 : List LOper := [
  ⟨some 35,none,.fieldAddr 7 (.t 1)⟩,
  ⟨some 36,none,.load false false 1 (.t 35)⟩,
  ⟨some 37,none,.lenL (.t 36)⟩,
  ⟨some 38,none,.mv false (.t 3)⟩,
  ⟨some 39,none,.bin .lss (.t 37) (.t 38)⟩,
  ⟨some 40,none,.mv false (.t 39)⟩,
  ⟨some 41,some (40,false),.fieldAddr 7 (.t 1)⟩,
  ⟨some 42,some (40,false),.load false false 1 (.t 41)⟩,
  ⟨some 43,some (40,false),.lenL (.t 42)⟩,
  ⟨some 44,some (40,false),.mv false (.t 4)⟩,
  ⟨some 45,some (40,false),.bin .gtr (.t 43) (.t 44)⟩,
  ⟨some 46,none,.pick (.t 40) (.c (.bool true)) (.t 45)⟩]
def parse_shape_r10 : List LOper := [
  ⟨some 2,none,.mv false (.c (.int .i64 3))⟩]
def parse_shape_r11 : List LOper := [
  ⟨some 47,none,.fieldAddr 0 (.t 1)⟩,
  ⟨some 48,none,.load false false 1 (.t 47)⟩,
  ⟨some 49,none,.bin .eql (.t 48) (.c (.int .i64 7))⟩,
  ⟨some 50,none,.mv false (.t 49)⟩,
  ⟨some 51,some (50,true),.fieldAddr 6 (.t 1)⟩,
  ⟨some 52,some (50,true),.load false false 1 (.t 51)⟩,
  ⟨some 53,some (50,true),.bin .lss (.t 52) (.c (.int .i64 1))⟩,
  ⟨some 54,some (50,true),.mv false (.t 53)⟩,
  ⟨some 55,some (54,false),.fieldAddr 6 (.t 1)⟩,
  ⟨some 56,some (54,false),.load false false 1 (.t 55)⟩,
  ⟨some 57,some (54,false),.bin .gtr (.t 56) (.c (.int .i64 5))⟩,
  ⟨some 58,some (50,true),.pick (.t 54) (.c (.bool true)) (.t 57)⟩,
  ⟨some 59,none,.pick (.t 50) (.t 58) (.c (.bool false))⟩]
def parse_shape_r12 : List LOper := [
  ⟨some 2,none,.mv false (.c (.int .i64 1))⟩]
def parse_shape_r13 : List LOper := [
  ⟨some 2,none,.mv false (.c (.int .i64 0))⟩]
def parse_shape_f : LFunc := ⟨60,1,[.tmp 2],(.seq (.ops parse_shape_r0) (.seq (.seq (.ops parse_shape_r1) (.cond (.t 28) (.seq (.ops parse_shape_r2) .ret) .skip)) (.seq (.ops parse_shape_r3) (.seq (.seq (.ops parse_shape_r4) (.block 0 (.seq (.ops parse_shape_r5) (.cond (.t 31) (.ops parse_shape_r6) (.seq (.ops parse_shape_r7) (.cond (.t 33) (.ops parse_shape_r8) .skip)))))) (.seq (.seq (.ops parse_shape_r9) (.cond (.t 46) (.seq (.ops parse_shape_r10) .ret) .skip)) (.seq (.seq (.ops parse_shape_r11) (.cond (.t 59) (.seq (.ops parse_shape_r12) .ret) .skip)) (.seq (.ops parse_shape_r13) .ret)))))))⟩
def parse_shape_v : VFunc := ⟨parse_shape_f,true,false,false⟩
theorem parse_shape_ok : preFunc Tryz.prog ⟨[],[],[]⟩ Tryz.f64 [] = some parse_shape_f := by kernel_rfl

-- gantry/rat.fit
def rat_fit_r0 : List LOper := [
  ⟨some 1,none,.box (.t 0)⟩,
  ⟨some 2,none,.alloc [.bool false,.str [],.str []]⟩]
def rat_fit_r1 : List LOper := [
  ⟨some 3,none,.load false true 3 (.t 1)⟩,
  ⟨some 4,none,.call false 74 [(.t 3)]⟩,
  ⟨some 5,none,.un .not (.t 4)⟩]
def rat_fit_r2 : List LOper := [
  ⟨some 6,none,.call false 77 []⟩,
  ⟨none,none,.store 3 (.t 2) (.t 6)⟩]
def rat_fit_r3 : List LOper := [
  ⟨some 7,none,.load false true 3 (.t 1)⟩,
  ⟨none,none,.store 3 (.t 2) (.t 7)⟩]
def rat_fit_f : LFunc := ⟨8,1,[.cell 2 true 3],(.seq (.ops rat_fit_r0) (.seq (.seq (.ops rat_fit_r1) (.cond (.t 5) (.seq (.ops rat_fit_r2) .ret) .skip)) (.seq (.ops rat_fit_r3) .ret)))⟩
def rat_fit_v : VFunc := ⟨rat_fit_f,true,false,false⟩
theorem rat_fit_ok : preFunc Tryz.prog ⟨[],[],[]⟩ Tryz.f65 [] = some rat_fit_f := by kernel_rfl

-- gantry/nat.Text
def nat_Text_r0 : List LOper := [
  ⟨some 2,none,.mv false (.c (.str []))⟩]
def nat_Text_r1 : List LOper := [
  ⟨some 9,none,.mv false (.t 0)⟩,
  ⟨some 10,none,.call false 78 [(.t 9)]⟩,
  ⟨some 3,none,.mv false (.t 10)⟩]
def nat_Text_r2 : List LOper := [
  ⟨some 4,none,.mv true (.c (.nilslice))⟩]
def nat_Text_r3 : List LOper := [
  ⟨some 11,none,.mv false (.t 3)⟩,
  ⟨some 12,none,.lenL (.t 11)⟩,
  ⟨some 13,none,.bin .gtr (.t 12) (.c (.int .i64 0))⟩]
def nat_Text_r4 : List LOper := [
  ⟨some 5,none,.mv false (.c (.int .u64 0))⟩]
def nat_Text_r5 : List LOper := [
  ⟨some 14,none,.mv false (.t 3)⟩,
  ⟨some 15,none,.lenL (.t 14)⟩,
  ⟨some 16,none,.bin .sub (.t 15) (.c (.int .i64 1))⟩,
  ⟨some 6,none,.mv false (.t 16)⟩]
def nat_Text_r6 : List LOper := [
  ⟨some 17,none,.mv false (.t 6)⟩,
  ⟨some 18,none,.bin .geq (.t 17) (.c (.int .i64 0))⟩]
def nat_Text_r7 : List LOper := [
  ⟨some 21,none,.mv false (.t 5)⟩,
  ⟨some 22,none,.bin .shl (.t 21) (.c (.int .u64 32))⟩,
  ⟨some 23,none,.mv false (.t 3)⟩,
  ⟨some 24,none,.mv false (.t 6)⟩,
  ⟨some 25,none,.indexAddr 1 (.t 23) (.t 24)⟩,
  ⟨some 26,none,.load false false 1 (.t 25)⟩,
  ⟨some 27,none,.conv .u64 (.t 26)⟩,
  ⟨some 28,none,.bin .or (.t 22) (.t 27)⟩,
  ⟨some 5,none,.mv false (.t 28)⟩]
def nat_Text_r8 : List LOper := [
  ⟨some 29,none,.mv false (.t 3)⟩,
  ⟨some 30,none,.mv false (.t 6)⟩,
  ⟨some 31,none,.mv false (.t 5)⟩,
  ⟨some 32,none,.bin .quo (.t 31) (.c (.int .u64 10))⟩,
  ⟨some 33,none,.conv .u32 (.t 32)⟩,
  ⟨some 34,none,.mv false (.t 5)⟩,
  ⟨some 35,none,.bin .rem (.t 34) (.c (.int .u64 10))⟩,
  ⟨some 36,none,.indexAddr 1 (.t 29) (.t 30)⟩,
  ⟨none,none,.store 1 (.t 36) (.t 33)⟩,
  ⟨some 5,none,.mv false (.t 35)⟩]
def nat_Text_r9 : List LOper := [
  ⟨some 19,none,.mv false (.t 6)⟩,
  ⟨some 20,none,.bin .sub (.t 19) (.c (.int .i64 1))⟩,
  ⟨some 6,none,.mv false (.t 20)⟩]
def nat_Text_b1 : LCode := (.seq (.seq (.ops nat_Text_r6) (.cond (.t 18) .skip (.exit 2))) (.seq (.block 3 (.seq (.ops nat_Text_r7) (.ops nat_Text_r8))) (.ops nat_Text_r9)))
def nat_Text_r10 : List LOper := [
  ⟨some 37,none,.mv true (.t 4)⟩,
  ⟨some 38,none,.mv false (.t 5)⟩,
  ⟨some 39,none,.bin .add (.c (.int .u64 48)) (.t 38)⟩,
  ⟨some 40,none,.conv .u8 (.t 39)⟩,
  ⟨some 41,none,.bslice false 1 1 [.int .u8 0] [(0,1,(.t 40))]⟩,
  ⟨some 42,none,.append true 1 1 (.t 37) (.t 41)⟩,
  ⟨some 4,none,.mv true (.t 42)⟩]
def nat_Text_r11 : List LOper := [
  ⟨some 43,none,.mv false (.t 3)⟩,
  ⟨some 44,none,.lenL (.t 43)⟩,
  ⟨some 45,none,.bin .gtr (.t 44) (.c (.int .i64 0))⟩,
  ⟨some 46,none,.mv false (.t 45)⟩,
  ⟨some 47,some (46,true),.mv false (.t 3)⟩,
  ⟨some 48,some (46,true),.mv false (.t 3)⟩,
  ⟨some 49,some (46,true),.lenL (.t 48)⟩,
  ⟨some 50,some (46,true),.bin .sub (.t 49) (.c (.int .i64 1))⟩,
  ⟨some 51,some (46,true),.indexAddr 1 (.t 47) (.t 50)⟩,
  ⟨some 52,some (46,true),.load false false 1 (.t 51)⟩,
  ⟨some 53,some (46,true),.bin .eql (.t 52) (.c (.int .u32 0))⟩,
  ⟨some 54,none,.pick (.t 46) (.t 53) (.c (.bool false))⟩]
def nat_Text_r12 : List LOper := [
  ⟨some 55,none,.mv false (.t 3)⟩,
  ⟨some 56,none,.mv false (.t 3)⟩,
  ⟨some 57,none,.lenL (.t 56)⟩,
  ⟨some 58,none,.bin .sub (.t 57) (.c (.int .i64 1))⟩,
  ⟨some 59,none,.slc 1 (.t 55) none (some (.t 58)) none⟩,
  ⟨some 3,none,.mv false (.t 59)⟩]
def nat_Text_b2 : LCode := (.seq (.seq (.ops nat_Text_r11) (.cond (.t 54) .skip (.exit 4))) (.block 5 (.ops nat_Text_r12)))
def nat_Text_b0 : LCode := (.seq (.seq (.ops nat_Text_r3) (.cond (.t 13) .skip (.exit 0))) (.block 1 (.seq (.ops nat_Text_r4) (.seq (.seq (.ops nat_Text_r5) (.block 2 (.loop [3,4,5,6] nat_Text_b1))) (.seq (.ops nat_Text_r10) (.block 4 (.loop [3,4] nat_Text_b2)))))))
def nat_Text_r13 : List LOper := [
  ⟨some 60,none,.mv false (.t 4)⟩,
  ⟨some 61,none,.lenL (.t 60)⟩,
  ⟨some 62,none,.bin .eql (.t 61) (.c (.int .i64 0))⟩]
def nat_Text_r14 : List LOper := [
  ⟨some 2,none,.mv false (.c (.str [48]))⟩]
def nat_Text_r15 : List LOper := [
  ⟨some 63,none,.mv false (.t 4)⟩,
  ⟨some 64,none,.lenL (.t 63)⟩,
  ⟨some 65,none,.bin .sub (.t 64) (.c (.int .i64 1))⟩,
  ⟨some 7,none,.mv false (.c (.int .i64 0))⟩,
  ⟨some 8,none,.mv false (.t 65)⟩]
def nat_Text_r16 : List LOper := [
  ⟨some 66,none,.mv false (.t 7)⟩,
  ⟨some 67,none,.mv false (.t 8)⟩,
  ⟨some 68,none,.bin .lss (.t 66) (.t 67)⟩]
def nat_Text_r17 : List LOper := [
  ⟨some 73,none,.mv false (.t 4)⟩,
  ⟨some 74,none,.mv false (.t 7)⟩,
  ⟨some 75,none,.mv false (.t 4)⟩,
  ⟨some 76,none,.mv false (.t 8)⟩,
  ⟨some 77,none,.mv false (.t 4)⟩,
  ⟨some 78,none,.mv false (.t 8)⟩,
  ⟨some 79,none,.indexAddr 1 (.t 77) (.t 78)⟩,
  ⟨some 80,none,.load false false 1 (.t 79)⟩,
  ⟨some 81,none,.mv false (.t 4)⟩,
  ⟨some 82,none,.mv false (.t 7)⟩,
  ⟨some 83,none,.indexAddr 1 (.t 81) (.t 82)⟩,
  ⟨some 84,none,.load false false 1 (.t 83)⟩,
  ⟨some 85,none,.indexAddr 1 (.t 73) (.t 74)⟩,
  ⟨none,none,.store 1 (.t 85) (.t 80)⟩,
  ⟨some 86,none,.indexAddr 1 (.t 75) (.t 76)⟩,
  ⟨none,none,.store 1 (.t 86) (.t 84)⟩]
theorem nat_Text_r17_d : drawC [0,0,0,0,0,0,48,112,0,0,768,1792,4083,8179,16383,32767] [
  ⟨some 73,none,.mv false (.t 4)⟩,
  ⟨some 74,none,.mv false (.t 7)⟩,
  ⟨some 75,none,.mv false (.t 4)⟩,
  ⟨some 76,none,.mv false (.t 8)⟩,
  ⟨some 77,none,.mv false (.t 4)⟩,
  ⟨some 78,none,.mv false (.t 8)⟩,
  ⟨some 79,none,.indexAddr 1 (.t 77) (.t 78)⟩,
  ⟨some 80,none,.load false false 1 (.t 79)⟩,
  ⟨some 81,none,.mv false (.t 4)⟩,
  ⟨some 82,none,.mv false (.t 7)⟩,
  ⟨some 83,none,.indexAddr 1 (.t 81) (.t 82)⟩,
  ⟨some 84,none,.load false false 1 (.t 83)⟩,
  ⟨some 85,none,.indexAddr 1 (.t 73) (.t 74)⟩,
  ⟨none,none,.store 1 (.t 85) (.t 80)⟩,
  ⟨some 86,none,.indexAddr 1 (.t 75) (.t 76)⟩,
  ⟨none,none,.store 1 (.t 86) (.t 84)⟩] = true := by kernel_rfl
def nat_Text_r18 : List LOper := [
  ⟨some 69,none,.mv false (.t 7)⟩,
  ⟨some 70,none,.bin .add (.t 69) (.c (.int .i64 1))⟩,
  ⟨some 71,none,.mv false (.t 8)⟩,
  ⟨some 72,none,.bin .sub (.t 71) (.c (.int .i64 1))⟩,
  ⟨some 7,none,.mv false (.t 70)⟩,
  ⟨some 8,none,.mv false (.t 72)⟩]
def nat_Text_b3 : LCode := (.seq (.seq (.ops nat_Text_r16) (.cond (.t 68) .skip (.exit 6))) (.seq (.block 7 (.dops [0,0,0,0,0,0,48,112,0,0,768,1792,4083,8179,16383,32767] nat_Text_r17)) (.ops nat_Text_r18)))
def nat_Text_r19 : List LOper := [
  ⟨some 87,none,.mv false (.t 4)⟩,
  ⟨some 88,none,.b2s (.t 87)⟩,
  ⟨some 2,none,.mv false (.t 88)⟩]
def nat_Text_f : LFunc := ⟨89,1,[.tmp 2],(.seq (.ops nat_Text_r0) (.seq (.ops nat_Text_r1) (.seq (.ops nat_Text_r2) (.seq (.block 0 (.loop [3,4] nat_Text_b0)) (.seq (.seq (.ops nat_Text_r13) (.cond (.t 62) (.seq (.ops nat_Text_r14) .ret) .skip)) (.seq (.seq (.ops nat_Text_r15) (.block 6 (.loop [4,7,8] nat_Text_b3))) (.seq (.ops nat_Text_r19) .ret)))))))⟩
def nat_Text_v : VFunc := ⟨nat_Text_f,true,false,false⟩
theorem nat_Text_ok : preFunc Tryz.prog ⟨[4,37,42],[],[]⟩ Tryz.f66 [[3,4],[3,4,5,6],[3,4],[4,7,8]] = some nat_Text_f := by kernel_rfl

-- strconv.FormatInt
def strconv_FormatInt_r0 : List LOper := [
  ⟨some 4,none,.mv false (.c (.str []))⟩]
def strconv_FormatInt_r1 : List LOper := [
  ⟨some 5,none,.mv false (.t 0)⟩,
  ⟨some 6,none,.mv false (.t 1)⟩,
  ⟨some 7,none,.call false 79 [(.t 5),(.t 6)]⟩,
  ⟨some 4,none,.mv false (.t 7)⟩]
def strconv_FormatInt_f : LFunc := ⟨8,2,[.tmp 4],(.seq (.ops strconv_FormatInt_r0) (.seq (.ops strconv_FormatInt_r1) .ret))⟩
def strconv_FormatInt_v : VFunc := ⟨strconv_FormatInt_f,true,false,false⟩
theorem strconv_FormatInt_ok : preFunc Tryz.prog ⟨[],[],[]⟩ Tryz.f67 [] = some strconv_FormatInt_f := by kernel_rfl

-- internal/stringslite.Cut
def stringslite_Cut_r0 : List LOper := [
  ⟨some 4,none,.mv false (.c (.str []))⟩,
  ⟨some 5,none,.mv false (.c (.str []))⟩,
  ⟨some 6,none,.mv false (.c (.bool false))⟩]
def stringslite_Cut_r1 : List LOper := [
  ⟨some 8,none,.mv false (.t 0)⟩,
  ⟨some 9,none,.mv false (.t 1)⟩,
  ⟨some 10,none,.call false 80 [(.t 8),(.t 9)]⟩,
  ⟨some 7,none,.mv false (.t 10)⟩]
def stringslite_Cut_r2 : List LOper := [
  ⟨some 11,none,.mv false (.t 7)⟩,
  ⟨some 12,none,.bin .geq (.t 11) (.c (.int .i64 0))⟩]
def stringslite_Cut_r3 : List LOper := [
  ⟨some 13,none,.mv false (.t 0)⟩,
  ⟨some 14,none,.mv false (.t 7)⟩,
  ⟨some 15,none,.slc 0 (.t 13) none (some (.t 14)) none⟩,
  ⟨some 16,none,.mv false (.t 0)⟩,
  ⟨some 17,none,.mv false (.t 7)⟩,
  ⟨some 18,none,.mv false (.t 1)⟩,
  ⟨some 19,none,.lenS (.t 18)⟩,
  ⟨some 20,none,.bin .add (.t 17) (.t 19)⟩,
  ⟨some 21,none,.slc 0 (.t 16) (some (.t 20)) none none⟩,
  ⟨some 4,none,.mv false (.t 15)⟩,
  ⟨some 5,none,.mv false (.t 21)⟩,
  ⟨some 6,none,.mv false (.c (.bool true))⟩]
theorem stringslite_Cut_r3_d : drawC [0,0,3,0,0,0,32,112,248,7,1023,2047] [
  ⟨some 13,none,.mv false (.t 0)⟩,
  ⟨some 14,none,.mv false (.t 7)⟩,
  ⟨some 15,none,.slc 0 (.t 13) none (some (.t 14)) none⟩,
  ⟨some 16,none,.mv false (.t 0)⟩,
  ⟨some 17,none,.mv false (.t 7)⟩,
  ⟨some 18,none,.mv false (.t 1)⟩,
  ⟨some 19,none,.lenS (.t 18)⟩,
  ⟨some 20,none,.bin .add (.t 17) (.t 19)⟩,
  ⟨some 21,none,.slc 0 (.t 16) (some (.t 20)) none none⟩,
  ⟨some 4,none,.mv false (.t 15)⟩,
  ⟨some 5,none,.mv false (.t 21)⟩,
  ⟨some 6,none,.mv false (.c (.bool true))⟩] = true := by kernel_rfl
def stringslite_Cut_r4 : List LOper := [
  ⟨some 22,none,.mv false (.t 0)⟩,
  ⟨some 4,none,.mv false (.t 22)⟩,
  ⟨some 5,none,.mv false (.c (.str []))⟩,
  ⟨some 6,none,.mv false (.c (.bool false))⟩]
def stringslite_Cut_f : LFunc := ⟨23,2,[.tmp 4,.tmp 5,.tmp 6],(.seq (.ops stringslite_Cut_r0) (.seq (.seq (.ops stringslite_Cut_r1) (.seq (.ops stringslite_Cut_r2) (.cond (.t 12) (.seq (.dops [0,0,3,0,0,0,32,112,248,7,1023,2047] stringslite_Cut_r3) .ret) .skip))) (.seq (.ops stringslite_Cut_r4) .ret)))⟩
def stringslite_Cut_v : VFunc := ⟨stringslite_Cut_f,true,false,false⟩
theorem stringslite_Cut_ok : preFunc Tryz.prog ⟨[],[],[]⟩ Tryz.f70 [] = some stringslite_Cut_f := by kernel_rfl

-- internal/strconv.ParseInt
def strconv_ParseIntx_r0 : List LOper := [
  ⟨some 6,none,.mv false (.c (.int .i64 0))⟩,
  ⟨some 7,none,.mv false (.c (.nilif))⟩]
def strconv_ParseIntx_r1 : List LOper := [
  ⟨some 12,none,.mv false (.t 0)⟩,
  ⟨some 13,none,.bin .eql (.t 12) (.c (.str []))⟩]
def strconv_ParseIntx_r2 : List LOper := [
  ⟨some 14,none,.stuck⟩,
  ⟨some 6,none,.mv false (.c (.int .i64 0))⟩,
  ⟨some 7,none,.mv false (.t 14)⟩]
def strconv_ParseIntx_r3 : List LOper := [
  ⟨some 8,none,.mv false (.c (.bool false))⟩]
def strconv_ParseIntx_r4 : List LOper := [
  ⟨some 15,none,.mv false (.t 0)⟩,
  ⟨some 16,none,.index (.t 15) (.c (.int .i64 0))⟩]
def strconv_ParseIntx_r5 : List LOper := [
  ⟨some 18,none,.bin .eql (.t 16) (.c (.int .u8 43))⟩,
  ⟨some 17,none,.mv false (.t 18)⟩]
def strconv_ParseIntx_r6 : List LOper := [
  ⟨some 19,none,.mv false (.t 0)⟩,
  ⟨some 20,none,.slc 0 (.t 19) (some (.c (.int .i64 1))) none none⟩,
  ⟨some 0,none,.mv false (.t 20)⟩]
def strconv_ParseIntx_r7 : List LOper := [
  ⟨some 22,none,.bin .eql (.t 16) (.c (.int .u8 45))⟩,
  ⟨some 21,none,.mv false (.t 22)⟩]
def strconv_ParseIntx_r8 : List LOper := [
  ⟨some 23,none,.mv false (.t 0)⟩,
  ⟨some 24,none,.slc 0 (.t 23) (some (.c (.int .i64 1))) none none⟩,
  ⟨some 0,none,.mv false (.t 24)⟩]
def strconv_ParseIntx_r9 : List LOper := [
  ⟨some 8,none,.mv false (.c (.bool true))⟩]
def strconv_ParseIntx_r10 : List LOper := [
  ⟨some 9,none,.mv false (.c (.int .u64 0))⟩]
def strconv_ParseIntx_r11 : List LOper := [
  ⟨some 26,none,.mv false (.t 0)⟩,
  ⟨some 27,none,.mv false (.t 1)⟩,
  ⟨some 28,none,.mv false (.t 2)⟩,
  ⟨some 29,none,.call false 81 [(.t 26),(.t 27),(.t 28)]⟩,
  ⟨some 25,none,.mv false (.t 29)⟩,
  ⟨some 30,none,.extract 0 (.t 25)⟩,
  ⟨some 31,none,.extract 1 (.t 25)⟩,
  ⟨some 9,none,.mv false (.t 30)⟩,
  ⟨some 7,none,.mv false (.t 31)⟩]
def strconv_ParseIntx_r12 : List LOper := [
  ⟨some 32,none,.mv false (.t 7)⟩,
  ⟨some 33,none,.eqv true .iface (.t 32) (.c (.nilif))⟩,
  ⟨some 34,none,.mv false (.t 33)⟩,
  ⟨some 35,some (34,true),.mv false (.t 7)⟩,
  ⟨some 36,some (34,true),.stuck⟩,
  ⟨some 37,some (34,true),.stuck⟩,
  ⟨some 38,none,.pick (.t 34) (.t 37) (.c (.bool false))⟩]
def strconv_ParseIntx_r13 : List LOper := [
  ⟨some 39,none,.mv false (.t 7)⟩,
  ⟨some 6,none,.mv false (.c (.int .i64 0))⟩,
  ⟨some 7,none,.mv false (.t 39)⟩]
def strconv_ParseIntx_r14 : List LOper := [
  ⟨some 40,none,.mv false (.t 2)⟩,
  ⟨some 41,none,.bin .eql (.t 40) (.c (.int .i64 0))⟩]
def strconv_ParseIntx_r15 : List LOper := [
  ⟨some 2,none,.mv false (.c (.int .i64 64))⟩]
def strconv_ParseIntx_r16 : List LOper := [
  ⟨some 42,none,.mv false (.t 2)⟩,
  ⟨some 43,none,.bin .sub (.t 42) (.c (.int .i64 1))⟩,
  ⟨some 44,none,.conv .u64 (.t 43)⟩,
  ⟨some 45,none,.bin .shl (.c (.int .u64 1)) (.t 44)⟩,
  ⟨some 10,none,.mv false (.t 45)⟩]
def strconv_ParseIntx_r17 : List LOper := [
  ⟨some 46,none,.mv false (.t 8)⟩,
  ⟨some 47,none,.un .not (.t 46)⟩,
  ⟨some 48,none,.mv false (.t 47)⟩,
  ⟨some 49,some (48,true),.mv false (.t 9)⟩,
  ⟨some 50,some (48,true),.mv false (.t 10)⟩,
  ⟨some 51,some (48,true),.bin .geq (.t 49) (.t 50)⟩,
  ⟨some 52,none,.pick (.t 48) (.t 51) (.c (.bool false))⟩]
def strconv_ParseIntx_r18 : List LOper := [
  ⟨some 53,none,.mv false (.t 10)⟩,
  ⟨some 54,none,.bin .sub (.t 53) (.c (.int .u64 1))⟩,
  ⟨some 55,none,.conv .i64 (.t 54)⟩,
  ⟨some 56,none,.stuck⟩,
  ⟨some 6,none,.mv false (.t 55)⟩,
  ⟨some 7,none,.mv false (.t 56)⟩]
def strconv_ParseIntx_r19 : List LOper := [
  ⟨some 57,none,.mv false (.t 8)⟩,
  ⟨some 58,none,.mv false (.t 57)⟩,
  ⟨some 59,some (58,true),.mv false (.t 9)⟩,
  ⟨some 60,some (58,true),.mv false (.t 10)⟩,
  ⟨some 61,some (58,true),.bin .gtr (.t 59) (.t 60)⟩,
  ⟨some 62,none,.pick (.t 58) (.t 61) (.c (.bool false))⟩]
def strconv_ParseIntx_r20 : List LOper := [
  ⟨some 63,none,.mv false (.t 10)⟩,
  ⟨some 64,none,.conv .i64 (.t 63)⟩,
  ⟨some 65,none,.un .neg (.t 64)⟩,
  ⟨some 66,none,.stuck⟩,
  ⟨some 6,none,.mv false (.t 65)⟩,
  ⟨some 7,none,.mv false (.t 66)⟩]
def strconv_ParseIntx_r21 : List LOper := [
  ⟨some 67,none,.mv false (.t 9)⟩,
  ⟨some 68,none,.conv .i64 (.t 67)⟩,
  ⟨some 11,none,.mv false (.t 68)⟩]
def strconv_ParseIntx_r22 : List LOper := [
  ⟨some 69,none,.mv false (.t 8)⟩]
def strconv_ParseIntx_r23 : List LOper := [
  ⟨some 70,none,.mv false (.t 11)⟩,
  ⟨some 71,none,.un .neg (.t 70)⟩,
  ⟨some 11,none,.mv false (.t 71)⟩]
def strconv_ParseIntx_r24 : List LOper := [
  ⟨some 72,none,.mv false (.t 11)⟩,
  ⟨some 6,none,.mv false (.t 72)⟩,
  ⟨some 7,none,.mv false (.c (.nilif))⟩]
def strconv_ParseIntx_f : LFunc := ⟨73,3,[.tmp 6,.tmp 7],(.seq (.ops strconv_ParseIntx_r0) (.seq (.seq (.ops strconv_ParseIntx_r1) (.cond (.t 13) (.seq (.ops strconv_ParseIntx_r2) .ret) .skip)) (.seq (.ops strconv_ParseIntx_r3) (.seq (.seq (.ops strconv_ParseIntx_r4) (.block 0 (.seq (.ops strconv_ParseIntx_r5) (.cond (.t 17) (.ops strconv_ParseIntx_r6) (.seq (.ops strconv_ParseIntx_r7) (.cond (.t 21) (.seq (.ops strconv_ParseIntx_r8) (.ops strconv_ParseIntx_r9)) .skip)))))) (.seq (.ops strconv_ParseIntx_r10) (.seq (.ops strconv_ParseIntx_r11) (.seq (.seq (.ops strconv_ParseIntx_r12) (.cond (.t 38) (.seq (.ops strconv_ParseIntx_r13) .ret) .skip)) (.seq (.seq (.ops strconv_ParseIntx_r14) (.cond (.t 41) (.ops strconv_ParseIntx_r15) .skip)) (.seq (.ops strconv_ParseIntx_r16) (.seq (.seq (.ops strconv_ParseIntx_r17) (.cond (.t 52) (.seq (.ops strconv_ParseIntx_r18) .ret) .skip)) (.seq (.seq (.ops strconv_ParseIntx_r19) (.cond (.t 62) (.seq (.ops strconv_ParseIntx_r20) .ret) .skip)) (.seq (.ops strconv_ParseIntx_r21) (.seq (.seq (.ops strconv_ParseIntx_r22) (.cond (.t 69) (.ops strconv_ParseIntx_r23) .skip)) (.seq (.ops strconv_ParseIntx_r24) .ret))))))))))))))⟩
def strconv_ParseIntx_v : VFunc := ⟨strconv_ParseIntx_f,true,false,false⟩
theorem strconv_ParseIntx_ok : preFunc Tryz.prog ⟨[],[],[]⟩ Tryz.f71 [] = some strconv_ParseIntx_f := by kernel_rfl

-- gantry/rat.Read
def rat_Read_r0 : List LOper := [
  ⟨some 2,none,.alloc [.bool false,.str [],.str []]⟩,
  ⟨some 3,none,.mv false (.c (.int .i64 0))⟩]
def rat_Read_r1 : List LOper := [
  ⟨some 11,none,.mv false (.t 0)⟩,
  ⟨some 12,none,.lenS (.t 11)⟩,
  ⟨some 13,none,.bin .gtr (.t 12) (.c (.int .i64 2000))⟩]
def rat_Read_r2 : List LOper := [
  ⟨some 14,none,.build [.bool false,.str [],.str []] []⟩,
  ⟨none,none,.store 3 (.t 2) (.t 14)⟩,
  ⟨some 3,none,.mv false (.c (.int .i64 2))⟩]
def rat_Read_r3 : List LOper := [
  ⟨some 16,none,.mv false (.t 0)⟩,
  ⟨some 17,none,.call false 86 [(.t 16),(.c (.str [45]))]⟩,
  ⟨some 15,none,.mv false (.t 17)⟩,
  ⟨some 18,none,.extract 0 (.t 15)⟩,
  ⟨some 19,none,.extract 1 (.t 15)⟩,
  ⟨some 0,none,.mv false (.t 18)⟩,
  ⟨some 4,none,.mv false (.t 19)⟩]
def rat_Read_r4 : List LOper := [
  ⟨some 21,none,.mv false (.t 0)⟩,
  ⟨some 22,none,.call false 57 [(.t 21),(.c (.str [47]))]⟩,
  ⟨some 20,none,.mv false (.t 22)⟩,
  ⟨some 23,none,.extract 0 (.t 20)⟩,
  ⟨some 24,none,.extract 1 (.t 20)⟩,
  ⟨some 25,none,.extract 2 (.t 20)⟩,
  ⟨some 5,none,.mv false (.t 23)⟩,
  ⟨some 6,none,.mv false (.t 24)⟩,
  ⟨some 7,none,.mv false (.t 25)⟩]
def rat_Read_r5 : List LOper := [
  ⟨some 26,none,.mv false (.t 7)⟩,
  ⟨some 27,none,.un .not (.t 26)⟩]
def rat_Read_r6 : List LOper := [
  ⟨some 6,none,.mv false (.c (.str [49]))⟩]
def rat_Read_r7 : List LOper := [
  ⟨some 29,none,.mv false (.t 5)⟩,
  ⟨some 30,none,.call false 87 [(.t 29)]⟩,
  ⟨some 28,none,.mv false (.t 30)⟩,
  ⟨some 31,none,.extract 0 (.t 28)⟩,
  ⟨some 32,none,.extract 1 (.t 28)⟩,
  ⟨some 8,none,.mv false (.t 31)⟩,
  ⟨some 9,none,.mv false (.t 32)⟩]
def rat_Read_r8 : List LOper := [
  ⟨some 33,none,.mv false (.t 9)⟩,
  ⟨some 34,none,.bin .neq (.t 33) (.c (.int .i64 0))⟩]
def rat_Read_r9 : List LOper := [
  ⟨some 35,none,.build [.bool false,.str [],.str []] []⟩,
  ⟨some 36,none,.mv false (.t 9)⟩,
  ⟨none,none,.store 3 (.t 2) (.t 35)⟩,
  ⟨some 3,none,.mv false (.t 36)⟩]
def rat_Read_r10 : List LOper := [
  ⟨some 38,none,.mv false (.t 6)⟩,
  ⟨some 39,none,.call false 87 [(.t 38)]⟩,
  ⟨some 37,none,.mv false (.t 39)⟩,
  ⟨some 40,none,.extract 0 (.t 37)⟩,
  ⟨some 41,none,.extract 1 (.t 37)⟩,
  ⟨some 10,none,.mv false (.t 40)⟩,
  ⟨some 9,none,.mv false (.t 41)⟩]
def rat_Read_r11 : List LOper := [
  ⟨some 42,none,.mv false (.t 9)⟩,
  ⟨some 43,none,.bin .neq (.t 42) (.c (.int .i64 0))⟩]
def rat_Read_r12 : List LOper := [
  ⟨some 44,none,.build [.bool false,.str [],.str []] []⟩,
  ⟨some 45,none,.mv false (.t 9)⟩,
  ⟨none,none,.store 3 (.t 2) (.t 44)⟩,
  ⟨some 3,none,.mv false (.t 45)⟩]
def rat_Read_r13 : List LOper := [
  ⟨some 46,none,.mv false (.t 10)⟩,
  ⟨some 47,none,.bin .eql (.t 46) (.c (.str []))⟩]
def rat_Read_r14 : List LOper := [
  ⟨some 48,none,.build [.bool false,.str [],.str []] []⟩,
  ⟨none,none,.store 3 (.t 2) (.t 48)⟩,
  ⟨some 3,none,.mv false (.c (.int .i64 12))⟩]
def rat_Read_r15 : List LOper := [
  ⟨some 49,none,.mv false (.t 4)⟩,
  ⟨some 50,none,.mv false (.t 8)⟩,
  ⟨some 51,none,.mv false (.t 10)⟩,
  ⟨some 52,none,.call false 88 [(.t 49),(.t 50),(.t 51)]⟩,
  ⟨none,none,.store 3 (.t 2) (.t 52)⟩,
  ⟨some 3,none,.mv false (.c (.int .i64 0))⟩]
def rat_Read_f : LFunc := ⟨53,1,[.cell 2 true 3,.tmp 3],(.seq (.ops rat_Read_r0) (.seq (.seq (.ops rat_Read_r1) (.cond (.t 13) (.seq (.ops rat_Read_r2) .ret) .skip)) (.seq (.ops rat_Read_r3) (.seq (.ops rat_Read_r4) (.seq (.seq (.ops rat_Read_r5) (.cond (.t 27) (.ops rat_Read_r6) .skip)) (.seq (.ops rat_Read_r7) (.seq (.seq (.ops rat_Read_r8) (.cond (.t 34) (.seq (.ops rat_Read_r9) .ret) .skip)) (.seq (.ops rat_Read_r10) (.seq (.seq (.ops rat_Read_r11) (.cond (.t 43) (.seq (.ops rat_Read_r12) .ret) .skip)) (.seq (.seq (.ops rat_Read_r13) (.cond (.t 47) (.seq (.ops rat_Read_r14) .ret) .skip)) (.seq (.ops rat_Read_r15) .ret)))))))))))⟩
def rat_Read_v : VFunc := ⟨rat_Read_f,true,false,false⟩
theorem rat_Read_ok : preFunc Tryz.prog ⟨[],[],[]⟩ Tryz.f73 [] = some rat_Read_f := by kernel_rfl

-- gantry/rat.Good
def rat_Good_r0 : List LOper := [
  ⟨some 1,none,.box (.t 0)⟩,
  ⟨some 2,none,.mv false (.c (.bool false))⟩]
def rat_Good_r1 : List LOper := [
  ⟨some 3,none,.fieldAddr 2 (.t 1)⟩,
  ⟨some 4,none,.load false false 1 (.t 3)⟩,
  ⟨some 5,none,.bin .eql (.t 4) (.c (.str []))⟩,
  ⟨some 6,none,.mv false (.t 5)⟩,
  ⟨some 7,some (6,false),.fieldAddr 2 (.t 1)⟩,
  ⟨some 8,some (6,false),.load false false 1 (.t 7)⟩,
  ⟨some 9,some (6,false),.index (.t 8) (.c (.int .i64 0))⟩,
  ⟨some 10,some (6,false),.bin .eql (.t 9) (.c (.int .u8 0))⟩,
  ⟨some 11,none,.pick (.t 6) (.c (.bool true)) (.t 10)⟩,
  ⟨some 12,none,.mv false (.t 11)⟩,
  ⟨some 13,some (12,false),.fieldAddr 1 (.t 1)⟩,
  ⟨some 14,some (12,false),.load false false 1 (.t 13)⟩,
  ⟨some 15,some (12,false),.bin .eql (.t 14) (.c (.str []))⟩,
  ⟨some 16,some (12,false),.mv false (.t 15)⟩,
  ⟨some 17,some (16,true),.fieldAddr 0 (.t 1)⟩,
  ⟨some 18,some (16,true),.load false false 1 (.t 17)⟩,
  ⟨some 19,some (16,true),.mv false (.t 18)⟩,
  ⟨some 20,some (19,false),.fieldAddr 2 (.t 1)⟩,
  ⟨some 21,some (19,false),.load false false 1 (.t 20)⟩,
  ⟨some 22,some (19,false),.bin .neq (.t 21) (.c (.str [1]))⟩,
  ⟨some 23,some (16,true),.pick (.t 19) (.c (.bool true)) (.t 22)⟩,
  ⟨some 24,some (12,false),.pick (.t 16) (.t 23) (.c (.bool false))⟩,
  ⟨some 25,none,.pick (.t 12) (.c (.bool true)) (.t 24)⟩,
  ⟨some 26,none,.mv false (.t 25)⟩,
  ⟨some 27,some (26,false),.fieldAddr 1 (.t 1)⟩,
  ⟨some 28,some (26,false),.load false false 1 (.t 27)⟩,
  ⟨some 29,some (26,false),.bin .neq (.t 28) (.c (.str []))⟩,
  ⟨some 30,some (26,false),.mv false (.t 29)⟩,
  ⟨some 31,some (30,true),.fieldAddr 1 (.t 1)⟩,
  ⟨some 32,some (30,true),.load false false 1 (.t 31)⟩,
  ⟨some 33,some (30,true),.index (.t 32) (.c (.int .i64 0))⟩,
  ⟨some 34,some (30,true),.bin .eql (.t 33) (.c (.int .u8 0))⟩,
  ⟨some 35,some (26,false),.pick (.t 30) (.t 34) (.c (.bool false))⟩,
  ⟨some 36,none,.pick (.t 26) (.c (.bool true)) (.t 35)⟩]
def rat_Good_r2 : List LOper := [
  ⟨some 2,none,.mv false (.c (.bool false))⟩]
def rat_Good_r3 : List LOper := [
  ⟨some 37,none,.fieldAddr 2 (.t 1)⟩,
  ⟨some 38,none,.load false false 1 (.t 37)⟩,
  ⟨some 39,none,.bin .eql (.t 38) (.c (.str [1]))⟩,
  ⟨some 40,none,.mv false (.t 39)⟩,
  ⟨some 41,some (40,false),.fieldAddr 1 (.t 1)⟩,
  ⟨some 42,some (40,false),.load false false 1 (.t 41)⟩,
  ⟨some 43,some (40,false),.fieldAddr 2 (.t 1)⟩,
  ⟨some 44,some (40,false),.load false false 1 (.t 43)⟩,
  ⟨some 45,some (40,false),.call false 89 [(.t 42),(.t 44)]⟩,
  ⟨some 46,some (40,false),.bin .eql (.t 45) (.c (.str [1]))⟩,
  ⟨some 47,none,.pick (.t 40) (.c (.bool true)) (.t 46)⟩,
  ⟨some 2,none,.mv false (.t 47)⟩]
def rat_Good_f : LFunc := ⟨48,1,[.tmp 2],(.seq (.ops rat_Good_r0) (.seq (.seq (.ops rat_Good_r1) (.cond (.t 36) (.seq (.ops rat_Good_r2) .ret) .skip)) (.seq (.ops rat_Good_r3) .ret)))⟩
def rat_Good_v : VFunc := ⟨rat_Good_f,true,false,false⟩
theorem rat_Good_ok : preFunc Tryz.prog ⟨[],[],[]⟩ Tryz.f74 [] = some rat_Good_f := by kernel_rfl

-- gantry/rat.Sign
def rat_Sign_r0 : List LOper := [
  ⟨some 1,none,.box (.t 0)⟩,
  ⟨some 2,none,.mv false (.c (.int .i64 0))⟩]
def rat_Sign_r1 : List LOper := [
  ⟨some 3,none,.load false true 3 (.t 1)⟩,
  ⟨some 4,none,.call false 65 [(.t 3)]⟩,
  ⟨none,none,.store 3 (.t 1) (.t 4)⟩]
def rat_Sign_r2 : List LOper := [
  ⟨some 6,none,.fieldAddr 1 (.t 1)⟩,
  ⟨some 7,none,.load false false 1 (.t 6)⟩,
  ⟨some 8,none,.bin .eql (.t 7) (.c (.str []))⟩,
  ⟨some 5,none,.mv false (.t 8)⟩]
def rat_Sign_r3 : List LOper := [
  ⟨some 2,none,.mv false (.c (.int .i64 0))⟩]
def rat_Sign_r4 : List LOper := [
  ⟨some 10,none,.fieldAddr 0 (.t 1)⟩,
  ⟨some 11,none,.load false false 1 (.t 10)⟩,
  ⟨some 9,none,.mv false (.t 11)⟩]
def rat_Sign_r5 : List LOper := [
  ⟨some 2,none,.mv false (.c (.int .i64 (-1)))⟩]
def rat_Sign_r6 : List LOper := [
  ⟨some 2,none,.mv false (.c (.int .i64 1))⟩]
def rat_Sign_f : LFunc := ⟨12,1,[.tmp 2],(.seq (.ops rat_Sign_r0) (.seq (.seq (.ops rat_Sign_r1) (.block 0 (.seq (.ops rat_Sign_r2) (.cond (.t 5) (.seq (.ops rat_Sign_r3) .ret) (.seq (.ops rat_Sign_r4) (.cond (.t 9) (.seq (.ops rat_Sign_r5) .ret) .skip)))))) (.seq (.ops rat_Sign_r6) .ret)))⟩
def rat_Sign_v : VFunc := ⟨rat_Sign_f,true,false,false⟩
theorem rat_Sign_ok : preFunc Tryz.prog ⟨[],[],[]⟩ Tryz.f75 [] = some rat_Sign_f := by kernel_rfl

-- gantry/rat.Small
def rat_Small_r0 : List LOper := [
  ⟨some 1,none,.box (.t 0)⟩,
  ⟨some 2,none,.mv false (.c (.bool false))⟩]
def rat_Small_r1 : List LOper := [
  ⟨some 3,none,.fieldAddr 1 (.t 1)⟩,
  ⟨some 4,none,.load false false 1 (.t 3)⟩,
  ⟨some 5,none,.lenS (.t 4)⟩,
  ⟨some 6,none,.bin .leq (.t 5) (.c (.int .i64 3))⟩,
  ⟨some 7,none,.mv false (.t 6)⟩,
  ⟨some 8,some (7,true),.fieldAddr 2 (.t 1)⟩,
  ⟨some 9,some (7,true),.load false false 1 (.t 8)⟩,
  ⟨some 10,some (7,true),.lenS (.t 9)⟩,
  ⟨some 11,some (7,true),.bin .leq (.t 10) (.c (.int .i64 2))⟩,
  ⟨some 12,none,.pick (.t 7) (.t 11) (.c (.bool false))⟩,
  ⟨some 13,none,.mv false (.t 12)⟩,
  ⟨some 14,some (13,true),.load false true 3 (.t 1)⟩,
  ⟨some 15,some (13,true),.call true 74 [(.t 14)]⟩,
  ⟨some 16,none,.pick (.t 13) (.t 15) (.c (.bool false))⟩,
  ⟨some 17,none,.mv false (.t 16)⟩,
  ⟨some 18,some (17,true),.fieldAddr 1 (.t 1)⟩,
  ⟨some 19,some (17,true),.load false false 1 (.t 18)⟩,
  ⟨some 20,some (17,true),.call true 91 [(.c (.int .i64 1000000))]⟩,
  ⟨some 21,some (17,true),.call true 90 [(.t 19),(.t 20)]⟩,
  ⟨some 22,some (17,true),.bin .leq (.t 21) (.c (.int .i64 0))⟩,
  ⟨some 23,none,.pick (.t 17) (.t 22) (.c (.bool false))⟩,
  ⟨some 24,none,.mv false (.t 23)⟩,
  ⟨some 25,some (24,true),.fieldAddr 2 (.t 1)⟩,
  ⟨some 26,some (24,true),.load false false 1 (.t 25)⟩,
  ⟨some 27,some (24,true),.call true 91 [(.c (.int .i64 1000))]⟩,
  ⟨some 28,some (24,true),.call true 90 [(.t 26),(.t 27)]⟩,
  ⟨some 29,some (24,true),.bin .leq (.t 28) (.c (.int .i64 0))⟩,
  ⟨some 30,none,.pick (.t 24) (.t 29) (.c (.bool false))⟩,
  ⟨some 2,none,.mv false (.t 30)⟩]
theorem rat_Small_r1_d : drawC [0,1,3,7,15,31,63,127,255,511,1023,2047,4095,8191,16383,32767,65535,32767,262143,524287,1048575,2097151,4194303,8388607,4194303,33554431,67108863,134217727,268435455] [
  ⟨some 3,none,.fieldAddr 1 (.t 1)⟩,
  ⟨some 4,none,.load false false 1 (.t 3)⟩,
  ⟨some 5,none,.lenS (.t 4)⟩,
  ⟨some 6,none,.bin .leq (.t 5) (.c (.int .i64 3))⟩,
  ⟨some 7,none,.mv false (.t 6)⟩,
  ⟨some 8,some (7,true),.fieldAddr 2 (.t 1)⟩,
  ⟨some 9,some (7,true),.load false false 1 (.t 8)⟩,
  ⟨some 10,some (7,true),.lenS (.t 9)⟩,
  ⟨some 11,some (7,true),.bin .leq (.t 10) (.c (.int .i64 2))⟩,
  ⟨some 12,none,.pick (.t 7) (.t 11) (.c (.bool false))⟩,
  ⟨some 13,none,.mv false (.t 12)⟩,
  ⟨some 14,some (13,true),.load false true 3 (.t 1)⟩,
  ⟨some 15,some (13,true),.call true 74 [(.t 14)]⟩,
  ⟨some 16,none,.pick (.t 13) (.t 15) (.c (.bool false))⟩,
  ⟨some 17,none,.mv false (.t 16)⟩,
  ⟨some 18,some (17,true),.fieldAddr 1 (.t 1)⟩,
  ⟨some 19,some (17,true),.load false false 1 (.t 18)⟩,
  ⟨some 20,some (17,true),.call true 91 [(.c (.int .i64 1000000))]⟩,
  ⟨some 21,some (17,true),.call true 90 [(.t 19),(.t 20)]⟩,
  ⟨some 22,some (17,true),.bin .leq (.t 21) (.c (.int .i64 0))⟩,
  ⟨some 23,none,.pick (.t 17) (.t 22) (.c (.bool false))⟩,
  ⟨some 24,none,.mv false (.t 23)⟩,
  ⟨some 25,some (24,true),.fieldAddr 2 (.t 1)⟩,
  ⟨some 26,some (24,true),.load false false 1 (.t 25)⟩,
  ⟨some 27,some (24,true),.call true 91 [(.c (.int .i64 1000))]⟩,
  ⟨some 28,some (24,true),.call true 90 [(.t 26),(.t 27)]⟩,
  ⟨some 29,some (24,true),.bin .leq (.t 28) (.c (.int .i64 0))⟩,
  ⟨some 30,none,.pick (.t 24) (.t 29) (.c (.bool false))⟩,
  ⟨some 2,none,.mv false (.t 30)⟩] = true := by kernel_rfl
def rat_Small_f : LFunc := ⟨31,1,[.tmp 2],(.seq (.ops rat_Small_r0) (.seq (.dops [0,1,3,7,15,31,63,127,255,511,1023,2047,4095,8191,16383,32767,65535,32767,262143,524287,1048575,2097151,4194303,8388607,4194303,33554431,67108863,134217727,268435455] rat_Small_r1) .ret))⟩
def rat_Small_v : VFunc := ⟨rat_Small_f,true,false,false⟩
theorem rat_Small_ok : preFunc Tryz.prog ⟨[],[],[15,20,21,27,28]⟩ Tryz.f76 [] = some rat_Small_f := by kernel_rfl

-- gantry/rat.zero
def rat_zero_r0 : List LOper := [
  ⟨some 0,none,.alloc [.bool false,.str [],.str []]⟩]
def rat_zero_r1 : List LOper := [
  ⟨some 1,none,.build [.bool false,.str [],.str []] [(2,1,(.c (.str [1])))]⟩,
  ⟨none,none,.store 3 (.t 0) (.t 1)⟩]
def rat_zero_f : LFunc := ⟨2,0,[.cell 0 true 3],(.seq (.ops rat_zero_r0) (.seq (.ops rat_zero_r1) .ret))⟩
def rat_zero_v : VFunc := ⟨rat_zero_f,true,false,false⟩
theorem rat_zero_ok : preFunc Tryz.prog ⟨[],[],[]⟩ Tryz.f77 [] = some rat_zero_f := by kernel_rfl

-- gantry/nat.words
def nat_words_r0 : List LOper := [
  ⟨some 2,none,.mv false (.c (.nilslice))⟩]
def nat_words_r1 : List LOper := [
  ⟨some 6,none,.mv false (.t 0)⟩,
  ⟨some 7,none,.call false 92 [(.t 6)]⟩,
  ⟨some 0,none,.mv false (.t 7)⟩]
def nat_words_r2 : List LOper := [
  ⟨some 8,none,.mv false (.t 0)⟩,
  ⟨some 9,none,.lenS (.t 8)⟩,
  ⟨some 10,none,.bin .add (.t 9) (.c (.int .i64 3))⟩,
  ⟨some 11,none,.bin .quo (.t 10) (.c (.int .i64 4))⟩,
  ⟨some 12,none,.make true 1 4 [.int .u32 0] (.t 11) (.t 11)⟩,
  ⟨some 3,none,.mv false (.t 12)⟩]
def nat_words_r3 : List LOper := [
  ⟨some 13,none,.mv false (.t 0)⟩,
  ⟨some 14,none,.lenS (.t 13)⟩,
  ⟨some 15,none,.mv false (.c (.int .i64 0))⟩]
def nat_words_r4 : List LOper := [
  ⟨some 16,none,.bin .lss (.t 15) (.t 14)⟩]
def nat_words_r5 : List LOper := [
  ⟨some 17,none,.mv false (.t 15)⟩,
  ⟨some 4,none,.mv false (.t 17)⟩]
def nat_words_r6 : List LOper := [
  ⟨some 18,none,.mv false (.t 0)⟩,
  ⟨some 19,none,.lenS (.t 18)⟩,
  ⟨some 20,none,.bin .sub (.t 19) (.c (.int .i64 1))⟩,
  ⟨some 21,none,.mv false (.t 4)⟩,
  ⟨some 22,none,.bin .sub (.t 20) (.t 21)⟩,
  ⟨some 5,none,.mv false (.t 22)⟩]
def nat_words_r7 : List LOper := [
  ⟨some 23,none,.mv false (.t 3)⟩,
  ⟨some 24,none,.mv false (.t 4)⟩,
  ⟨some 25,none,.bin .quo (.t 24) (.c (.int .i64 4))⟩,
  ⟨some 26,none,.indexAddr 1 (.t 23) (.t 25)⟩,
  ⟨some 27,none,.load false false 1 (.t 26)⟩,
  ⟨some 28,none,.mv false (.t 0)⟩,
  ⟨some 29,none,.mv false (.t 5)⟩,
  ⟨some 30,none,.index (.t 28) (.t 29)⟩,
  ⟨some 31,none,.conv .u32 (.t 30)⟩,
  ⟨some 32,none,.mv false (.t 4)⟩,
  ⟨some 33,none,.bin .rem (.t 32) (.c (.int .i64 4))⟩,
  ⟨some 34,none,.bin .mul (.t 33) (.c (.int .i64 8))⟩,
  ⟨some 35,none,.bin .shl (.t 31) (.t 34)⟩,
  ⟨some 36,none,.bin .or (.t 27) (.t 35)⟩,
  ⟨some 37,none,.indexAddr 1 (.t 23) (.t 25)⟩,
  ⟨none,none,.store 1 (.t 37) (.t 36)⟩]
theorem nat_words_r7_d : drawC [0,0,2,7,15,0,0,96,224,0,512,1536,4064,8191,16383,32767] [
  ⟨some 23,none,.mv false (.t 3)⟩,
  ⟨some 24,none,.mv false (.t 4)⟩,
  ⟨some 25,none,.bin .quo (.t 24) (.c (.int .i64 4))⟩,
  ⟨some 26,none,.indexAddr 1 (.t 23) (.t 25)⟩,
  ⟨some 27,none,.load false false 1 (.t 26)⟩,
  ⟨some 28,none,.mv false (.t 0)⟩,
  ⟨some 29,none,.mv false (.t 5)⟩,
  ⟨some 30,none,.index (.t 28) (.t 29)⟩,
  ⟨some 31,none,.conv .u32 (.t 30)⟩,
  ⟨some 32,none,.mv false (.t 4)⟩,
  ⟨some 33,none,.bin .rem (.t 32) (.c (.int .i64 4))⟩,
  ⟨some 34,none,.bin .mul (.t 33) (.c (.int .i64 8))⟩,
  ⟨some 35,none,.bin .shl (.t 31) (.t 34)⟩,
  ⟨some 36,none,.bin .or (.t 27) (.t 35)⟩,
  ⟨some 37,none,.indexAddr 1 (.t 23) (.t 25)⟩,
  ⟨none,none,.store 1 (.t 37) (.t 36)⟩] = true := by kernel_rfl
def nat_words_r8 : List LOper := [
  ⟨some 38,none,.bin .add (.t 15) (.c (.int .i64 1))⟩,
  ⟨some 15,none,.mv false (.t 38)⟩]
def nat_words_b0 : LCode := (.seq (.ops nat_words_r4) (.seq (.cond (.t 16) .skip (.exit 0)) (.seq (.block 1 (.seq (.ops nat_words_r5) (.seq (.ops nat_words_r6) (.dops [0,0,2,7,15,0,0,96,224,0,512,1536,4064,8191,16383,32767] nat_words_r7)))) (.ops nat_words_r8))))
def nat_words_r9 : List LOper := [
  ⟨some 39,none,.mv false (.t 3)⟩,
  ⟨some 2,none,.mv false (.t 39)⟩]
def nat_words_f : LFunc := ⟨40,1,[.tmp 2],(.seq (.ops nat_words_r0) (.seq (.ops nat_words_r1) (.seq (.ops nat_words_r2) (.seq (.seq (.ops nat_words_r3) (.block 0 (.loop [0,3,14,15] nat_words_b0))) (.seq (.ops nat_words_r9) .ret)))))⟩
def nat_words_v : VFunc := ⟨nat_words_f,false,false,true⟩
theorem nat_words_ok : preFunc Tryz.prog ⟨[],[],[]⟩ Tryz.f78 [[0,3,14,15]] = some nat_words_f := by kernel_rfl

-- internal/strconv.FormatInt
def strconv_FormatIntx_r0 : List LOper := [
  ⟨some 4,none,.mv false (.c (.str []))⟩]
def strconv_FormatIntx_r1 : List LOper := [
  ⟨some 10,none,.mv false (.t 1)⟩,
  ⟨some 11,none,.bin .eql (.t 10) (.c (.int .i64 10))⟩]
def strconv_FormatIntx_r2 : List LOper := [
  ⟨some 12,none,.mv false (.t 0)⟩,
  ⟨some 13,none,.bin .leq (.c (.int .i64 0)) (.t 12)⟩,
  ⟨some 14,none,.mv false (.t 13)⟩,
  ⟨some 15,some (14,true),.mv false (.t 0)⟩,
  ⟨some 16,some (14,true),.bin .lss (.t 15) (.c (.int .i64 100))⟩,
  ⟨some 17,none,.pick (.t 14) (.t 16) (.c (.bool false))⟩]
def strconv_FormatIntx_r3 : List LOper := [
  ⟨some 18,none,.mv false (.t 0)⟩,
  ⟨some 19,none,.call false 93 [(.t 18)]⟩,
  ⟨some 4,none,.mv false (.t 19)⟩]
def strconv_FormatIntx_r4 : List LOper := [
  ⟨some 5,none,.alloc [.int .u8 0,.int .u8 0,.int .u8 0,.int .u8 0,.int .u8 0,.int .u8 0,.int .u8 0,.int .u8 0,.int .u8 0,.int .u8 0,.int .u8 0,.int .u8 0,.int .u8 0,.int .u8 0,.int .u8 0,.int .u8 0,.int .u8 0,.int .u8 0,.int .u8 0,.int .u8 0,.int .u8 0,.int .u8 0,.int .u8 0,.int .u8 0]⟩]
def strconv_FormatIntx_r5 : List LOper := [
  ⟨some 20,none,.mv false (.t 0)⟩,
  ⟨some 21,none,.conv .u64 (.t 20)⟩,
  ⟨some 6,none,.mv false (.t 21)⟩]
def strconv_FormatIntx_r6 : List LOper := [
  ⟨some 22,none,.mv false (.t 0)⟩,
  ⟨some 23,none,.bin .lss (.t 22) (.c (.int .i64 0))⟩]
def strconv_FormatIntx_r7 : List LOper := [
  ⟨some 24,none,.mv false (.t 6)⟩,
  ⟨some 25,none,.un .neg (.t 24)⟩,
  ⟨some 6,none,.mv false (.t 25)⟩]
def strconv_FormatIntx_r8 : List LOper := [
  ⟨some 26,none,.mv false (.t 6)⟩,
  ⟨some 27,none,.call false 94 [(.t 26)]⟩,
  ⟨some 7,none,.mv false (.t 27)⟩]
def strconv_FormatIntx_r9 : List LOper := [
  ⟨some 28,none,.mv false (.t 7)⟩,
  ⟨some 29,none,.bin .add (.c (.int .i64 1)) (.t 28)⟩,
  ⟨some 30,none,.slcA 24 1 (.t 5) (some (.c (.int .i64 1))) (some (.t 29))⟩,
  ⟨some 31,none,.mv false (.t 6)⟩,
  ⟨some 32,none,.call false 95 [(.t 30),(.t 31)]⟩]
def strconv_FormatIntx_r10 : List LOper := [
  ⟨some 33,none,.mv false (.t 0)⟩,
  ⟨some 34,none,.bin .lss (.t 33) (.c (.int .i64 0))⟩]
def strconv_FormatIntx_r11 : List LOper := [
  ⟨some 35,none,.indexAddrA 24 1 (.t 5) (.c (.int .i64 0))⟩,
  ⟨none,none,.store 1 (.t 35) (.c (.int .u8 45))⟩]
def strconv_FormatIntx_r12 : List LOper := [
  ⟨some 36,none,.mv false (.t 7)⟩,
  ⟨some 37,none,.bin .add (.c (.int .i64 1)) (.t 36)⟩,
  ⟨some 38,none,.slcA 24 1 (.t 5) none (some (.t 37))⟩,
  ⟨some 39,none,.b2s (.t 38)⟩,
  ⟨some 4,none,.mv false (.t 39)⟩]
def strconv_FormatIntx_r13 : List LOper := [
  ⟨some 40,none,.mv false (.t 7)⟩,
  ⟨some 41,none,.bin .add (.c (.int .i64 1)) (.t 40)⟩,
  ⟨some 42,none,.slcA 24 1 (.t 5) (some (.c (.int .i64 1))) (some (.t 41))⟩,
  ⟨some 43,none,.b2s (.t 42)⟩,
  ⟨some 4,none,.mv false (.t 43)⟩]
def strconv_FormatIntx_r14 : List LOper := [
  ⟨some 45,none,.mv false (.t 0)⟩,
  ⟨some 46,none,.conv .u64 (.t 45)⟩,
  ⟨some 47,none,.mv false (.t 1)⟩,
  ⟨some 48,none,.mv false (.t 0)⟩,
  ⟨some 49,none,.bin .lss (.t 48) (.c (.int .i64 0))⟩,
  ⟨some 50,none,.call false 96 [(.c (.nilslice)),(.t 46),(.t 47),(.t 49),(.c (.bool false))]⟩,
  ⟨some 44,none,.mv false (.t 50)⟩,
  ⟨some 51,none,.extract 0 (.t 44)⟩,
  ⟨some 52,none,.extract 1 (.t 44)⟩,
  ⟨some 8,none,.mv false (.t 51)⟩,
  ⟨some 9,none,.mv false (.t 52)⟩]
def strconv_FormatIntx_r15 : List LOper := [
  ⟨some 53,none,.mv false (.t 9)⟩,
  ⟨some 4,none,.mv false (.t 53)⟩]
def strconv_FormatIntx_f : LFunc := ⟨54,2,[.tmp 4],(.seq (.ops strconv_FormatIntx_r0) (.seq (.seq (.ops strconv_FormatIntx_r1) (.cond (.t 11) (.seq (.seq (.ops strconv_FormatIntx_r2) (.cond (.t 17) (.seq (.ops strconv_FormatIntx_r3) .ret) .skip)) (.seq (.ops strconv_FormatIntx_r4) (.seq (.ops strconv_FormatIntx_r5) (.seq (.seq (.ops strconv_FormatIntx_r6) (.cond (.t 23) (.ops strconv_FormatIntx_r7) .skip)) (.seq (.ops strconv_FormatIntx_r8) (.seq (.ops strconv_FormatIntx_r9) (.seq (.seq (.ops strconv_FormatIntx_r10) (.cond (.t 34) (.seq (.ops strconv_FormatIntx_r11) (.seq (.ops strconv_FormatIntx_r12) .ret)) .skip)) (.seq (.ops strconv_FormatIntx_r13) .ret)))))))) .skip)) (.seq (.ops strconv_FormatIntx_r14) (.seq (.ops strconv_FormatIntx_r15) .ret))))⟩
def strconv_FormatIntx_v : VFunc := ⟨strconv_FormatIntx_f,true,false,false⟩
theorem strconv_FormatIntx_ok : preFunc Tryz.prog ⟨[],[],[]⟩ Tryz.f79 [] = some strconv_FormatIntx_f := by kernel_rfl

-- internal/strconv.ParseUint
def strconv_ParseUint_r0 : List LOper := [
  ⟨some 6,none,.mv false (.c (.int .u64 0))⟩,
  ⟨some 7,none,.mv false (.c (.nilif))⟩]
def strconv_ParseUint_r1 : List LOper := [
  ⟨some 18,none,.mv false (.t 0)⟩,
  ⟨some 19,none,.bin .eql (.t 18) (.c (.str []))⟩]
def strconv_ParseUint_r2 : List LOper := [
  ⟨some 20,none,.stuck⟩,
  ⟨some 6,none,.mv false (.c (.int .u64 0))⟩,
  ⟨some 7,none,.mv false (.t 20)⟩]
def strconv_ParseUint_r3 : List LOper := [
  ⟨some 21,none,.mv false (.t 1)⟩,
  ⟨some 22,none,.bin .eql (.t 21) (.c (.int .i64 0))⟩,
  ⟨some 8,none,.mv false (.t 22)⟩]
def strconv_ParseUint_r4 : List LOper := [
  ⟨some 23,none,.mv false (.t 0)⟩,
  ⟨some 9,none,.mv false (.t 23)⟩]
def strconv_ParseUint_r5 : List LOper := [
  ⟨some 26,none,.mv false (.t 1)⟩,
  ⟨some 27,none,.bin .leq (.c (.int .i64 2)) (.t 26)⟩,
  ⟨some 28,none,.mv false (.t 27)⟩,
  ⟨some 29,some (28,true),.mv false (.t 1)⟩,
  ⟨some 30,some (28,true),.bin .leq (.t 29) (.c (.int .i64 36))⟩,
  ⟨some 31,none,.pick (.t 28) (.t 30) (.c (.bool false))⟩,
  ⟨some 25,none,.mv false (.t 31)⟩]
def strconv_ParseUint_r6 : List LOper := [
  ⟨some 33,none,.mv false (.t 1)⟩,
  ⟨some 34,none,.bin .eql (.t 33) (.c (.int .i64 0))⟩,
  ⟨some 32,none,.mv false (.t 34)⟩]
def strconv_ParseUint_r7 : List LOper := [
  ⟨some 1,none,.mv false (.c (.int .i64 10))⟩]
def strconv_ParseUint_r8 : List LOper := [
  ⟨some 35,none,.mv false (.t 0)⟩,
  ⟨some 36,none,.index (.t 35) (.c (.int .i64 0))⟩,
  ⟨some 37,none,.bin .eql (.t 36) (.c (.int .u8 48))⟩]
def strconv_ParseUint_r9 : List LOper := [
  ⟨some 41,none,.mv false (.t 0)⟩,
  ⟨some 42,none,.lenS (.t 41)⟩,
  ⟨some 43,none,.bin .geq (.t 42) (.c (.int .i64 3))⟩,
  ⟨some 44,none,.mv false (.t 43)⟩,
  ⟨some 45,some (44,true),.mv false (.t 0)⟩,
  ⟨some 46,some (44,true),.index (.t 45) (.c (.int .i64 1))⟩,
  ⟨some 47,some (44,true),.call false 101 [(.t 46)]⟩,
  ⟨some 48,some (44,true),.bin .eql (.t 47) (.c (.int .u8 98))⟩,
  ⟨some 49,none,.pick (.t 44) (.t 48) (.c (.bool false))⟩,
  ⟨some 40,none,.mv false (.t 49)⟩]
def strconv_ParseUint_r10 : List LOper := [
  ⟨some 1,none,.mv false (.c (.int .i64 2))⟩]
def strconv_ParseUint_r11 : List LOper := [
  ⟨some 50,none,.mv false (.t 0)⟩,
  ⟨some 51,none,.slc 0 (.t 50) (some (.c (.int .i64 2))) none none⟩,
  ⟨some 0,none,.mv false (.t 51)⟩]
def strconv_ParseUint_r12 : List LOper := [
  ⟨some 53,none,.mv false (.t 0)⟩,
  ⟨some 54,none,.lenS (.t 53)⟩,
  ⟨some 55,none,.bin .geq (.t 54) (.c (.int .i64 3))⟩,
  ⟨some 56,none,.mv false (.t 55)⟩,
  ⟨some 57,some (56,true),.mv false (.t 0)⟩,
  ⟨some 58,some (56,true),.index (.t 57) (.c (.int .i64 1))⟩,
  ⟨some 59,some (56,true),.call false 101 [(.t 58)]⟩,
  ⟨some 60,some (56,true),.bin .eql (.t 59) (.c (.int .u8 111))⟩,
  ⟨some 61,none,.pick (.t 56) (.t 60) (.c (.bool false))⟩,
  ⟨some 52,none,.mv false (.t 61)⟩]
def strconv_ParseUint_r13 : List LOper := [
  ⟨some 1,none,.mv false (.c (.int .i64 8))⟩]
def strconv_ParseUint_r14 : List LOper := [
  ⟨some 62,none,.mv false (.t 0)⟩,
  ⟨some 63,none,.slc 0 (.t 62) (some (.c (.int .i64 2))) none none⟩,
  ⟨some 0,none,.mv false (.t 63)⟩]
def strconv_ParseUint_r15 : List LOper := [
  ⟨some 65,none,.mv false (.t 0)⟩,
  ⟨some 66,none,.lenS (.t 65)⟩,
  ⟨some 67,none,.bin .geq (.t 66) (.c (.int .i64 3))⟩,
  ⟨some 68,none,.mv false (.t 67)⟩,
  ⟨some 69,some (68,true),.mv false (.t 0)⟩,
  ⟨some 70,some (68,true),.index (.t 69) (.c (.int .i64 1))⟩,
  ⟨some 71,some (68,true),.call false 101 [(.t 70)]⟩,
  ⟨some 72,some (68,true),.bin .eql (.t 71) (.c (.int .u8 120))⟩,
  ⟨some 73,none,.pick (.t 68) (.t 72) (.c (.bool false))⟩,
  ⟨some 64,none,.mv false (.t 73)⟩]
def strconv_ParseUint_r16 : List LOper := [
  ⟨some 1,none,.mv false (.c (.int .i64 16))⟩]
def strconv_ParseUint_r17 : List LOper := [
  ⟨some 74,none,.mv false (.t 0)⟩,
  ⟨some 75,none,.slc 0 (.t 74) (some (.c (.int .i64 2))) none none⟩,
  ⟨some 0,none,.mv false (.t 75)⟩]
def strconv_ParseUint_r18 : List LOper := [
  ⟨some 1,none,.mv false (.c (.int .i64 8))⟩]
def strconv_ParseUint_r19 : List LOper := [
  ⟨some 38,none,.mv false (.t 0)⟩,
  ⟨some 39,none,.slc 0 (.t 38) (some (.c (.int .i64 1))) none none⟩,
  ⟨some 0,none,.mv false (.t 39)⟩]
def strconv_ParseUint_r20 : List LOper := [
  ⟨some 24,none,.stuck⟩,
  ⟨some 6,none,.mv false (.c (.int .u64 0))⟩,
  ⟨some 7,none,.mv false (.t 24)⟩]
def strconv_ParseUint_r21 : List LOper := [
  ⟨some 76,none,.mv false (.t 2)⟩,
  ⟨some 77,none,.bin .eql (.t 76) (.c (.int .i64 0))⟩]
def strconv_ParseUint_r22 : List LOper := [
  ⟨some 2,none,.mv false (.c (.int .i64 64))⟩]
def strconv_ParseUint_r23 : List LOper := [
  ⟨some 78,none,.mv false (.t 2)⟩,
  ⟨some 79,none,.bin .lss (.t 78) (.c (.int .i64 0))⟩,
  ⟨some 80,none,.mv false (.t 79)⟩,
  ⟨some 81,some (80,false),.mv false (.t 2)⟩,
  ⟨some 82,some (80,false),.bin .gtr (.t 81) (.c (.int .i64 64))⟩,
  ⟨some 83,none,.pick (.t 80) (.c (.bool true)) (.t 82)⟩]
def strconv_ParseUint_r24 : List LOper := [
  ⟨some 84,none,.stuck⟩,
  ⟨some 6,none,.mv false (.c (.int .u64 0))⟩,
  ⟨some 7,none,.mv false (.t 84)⟩]
def strconv_ParseUint_r25 : List LOper := [
  ⟨some 10,none,.mv false (.c (.int .u64 0))⟩]
def strconv_ParseUint_r26 : List LOper := [
  ⟨some 85,none,.mv false (.t 1)⟩]
def strconv_ParseUint_r27 : List LOper := [
  ⟨some 91,none,.bin .eql (.t 85) (.c (.int .i64 10))⟩,
  ⟨some 90,none,.mv false (.t 91)⟩]
def strconv_ParseUint_r28 : List LOper := [
  ⟨some 10,none,.mv false (.c (.int .u64 1844674407370955162))⟩]
def strconv_ParseUint_r29 : List LOper := [
  ⟨some 93,none,.bin .eql (.t 85) (.c (.int .i64 16))⟩,
  ⟨some 92,none,.mv false (.t 93)⟩]
def strconv_ParseUint_r30 : List LOper := [
  ⟨some 10,none,.mv false (.c (.int .u64 1152921504606846976))⟩]
def strconv_ParseUint_r31 : List LOper := [
  ⟨some 86,none,.mv false (.t 1)⟩,
  ⟨some 87,none,.conv .u64 (.t 86)⟩,
  ⟨some 88,none,.bin .quo (.c (.int .u64 18446744073709551615)) (.t 87)⟩,
  ⟨some 89,none,.bin .add (.t 88) (.c (.int .u64 1))⟩,
  ⟨some 10,none,.mv false (.t 89)⟩]
def strconv_ParseUint_r32 : List LOper := [
  ⟨some 94,none,.mv false (.t 2)⟩,
  ⟨some 95,none,.conv .u64 (.t 94)⟩,
  ⟨some 96,none,.bin .shl (.c (.int .u64 1)) (.t 95)⟩,
  ⟨some 97,none,.bin .sub (.t 96) (.c (.int .u64 1))⟩,
  ⟨some 11,none,.mv false (.t 97)⟩]
def strconv_ParseUint_r33 : List LOper := [
  ⟨some 12,none,.mv false (.c (.bool false))⟩]
def strconv_ParseUint_r34 : List LOper := [
  ⟨some 13,none,.mv false (.c (.int .u64 0))⟩]
def strconv_ParseUint_r35 : List LOper := [
  ⟨some 98,none,.mv false (.t 0)⟩,
  ⟨some 99,none,.s2b (.t 98)⟩,
  ⟨some 100,none,.lenL (.t 99)⟩,
  ⟨some 101,none,.mv false (.c (.int .i64 0))⟩]
def strconv_ParseUint_r36 : List LOper := [
  ⟨some 102,none,.bin .lss (.t 101) (.t 100)⟩]
def strconv_ParseUint_r37 : List LOper := [
  ⟨some 103,none,.indexAddr 1 (.t 99) (.t 101)⟩,
  ⟨some 104,none,.load false false 1 (.t 103)⟩,
  ⟨some 15,none,.mv false (.t 104)⟩]
def strconv_ParseUint_r38 : List LOper := [
  ⟨some 16,none,.mv false (.c (.int .u8 0))⟩]
def strconv_ParseUint_r39 : List LOper := [
  ⟨some 107,none,.mv false (.t 15)⟩,
  ⟨some 108,none,.bin .eql (.t 107) (.c (.int .u8 95))⟩,
  ⟨some 109,none,.mv false (.t 108)⟩,
  ⟨some 110,some (109,true),.mv false (.t 8)⟩,
  ⟨some 111,none,.pick (.t 109) (.t 110) (.c (.bool false))⟩,
  ⟨some 106,none,.mv false (.t 111)⟩]
def strconv_ParseUint_r40 : List LOper := [
  ⟨some 12,none,.mv false (.c (.bool true))⟩]
def strconv_ParseUint_r41 : List LOper := [
  ⟨some 113,none,.mv false (.t 15)⟩,
  ⟨some 114,none,.bin .leq (.c (.int .u8 48)) (.t 113)⟩,
  ⟨some 115,none,.mv false (.t 114)⟩,
  ⟨some 116,some (115,true),.mv false (.t 15)⟩,
  ⟨some 117,some (115,true),.bin .leq (.t 116) (.c (.int .u8 57))⟩,
  ⟨some 118,none,.pick (.t 115) (.t 117) (.c (.bool false))⟩,
  ⟨some 112,none,.mv false (.t 118)⟩]
def strconv_ParseUint_r42 : List LOper := [
  ⟨some 119,none,.mv false (.t 15)⟩,
  ⟨some 120,none,.bin .sub (.t 119) (.c (.int .u8 48))⟩,
  ⟨some 16,none,.mv false (.t 120)⟩]
def strconv_ParseUint_r43 : List LOper := [
  ⟨some 122,none,.mv false (.t 15)⟩,
  ⟨some 123,none,.call false 101 [(.t 122)]⟩,
  ⟨some 124,none,.bin .leq (.c (.int .u8 97)) (.t 123)⟩,
  ⟨some 125,none,.mv false (.t 124)⟩,
  ⟨some 126,some (125,true),.mv false (.t 15)⟩,
  ⟨some 127,some (125,true),.call false 101 [(.t 126)]⟩,
  ⟨some 128,some (125,true),.bin .leq (.t 127) (.c (.int .u8 122))⟩,
  ⟨some 129,none,.pick (.t 125) (.t 128) (.c (.bool false))⟩,
  ⟨some 121,none,.mv false (.t 129)⟩]
def strconv_ParseUint_r44 : List LOper := [
  ⟨some 130,none,.mv false (.t 15)⟩,
  ⟨some 131,none,.call false 101 [(.t 130)]⟩,
  ⟨some 132,none,.bin .sub (.t 131) (.c (.int .u8 97))⟩,
  ⟨some 133,none,.bin .add (.t 132) (.c (.int .u8 10))⟩,
  ⟨some 16,none,.mv false (.t 133)⟩]
def strconv_ParseUint_r45 : List LOper := [
  ⟨some 105,none,.stuck⟩,
  ⟨some 6,none,.mv false (.c (.int .u64 0))⟩,
  ⟨some 7,none,.mv false (.t 105)⟩]
def strconv_ParseUint_r46 : List LOper := [
  ⟨some 134,none,.mv false (.t 16)⟩,
  ⟨some 135,none,.mv false (.t 1)⟩,
  ⟨some 136,none,.conv .u8 (.t 135)⟩,
  ⟨some 137,none,.bin .geq (.t 134) (.t 136)⟩]
def strconv_ParseUint_r47 : List LOper := [
  ⟨some 138,none,.stuck⟩,
  ⟨some 6,none,.mv false (.c (.int .u64 0))⟩,
  ⟨some 7,none,.mv false (.t 138)⟩]
def strconv_ParseUint_r48 : List LOper := [
  ⟨some 139,none,.mv false (.t 13)⟩,
  ⟨some 140,none,.mv false (.t 10)⟩,
  ⟨some 141,none,.bin .geq (.t 139) (.t 140)⟩]
def strconv_ParseUint_r49 : List LOper := [
  ⟨some 142,none,.mv false (.t 11)⟩,
  ⟨some 143,none,.stuck⟩,
  ⟨some 6,none,.mv false (.t 142)⟩,
  ⟨some 7,none,.mv false (.t 143)⟩]
def strconv_ParseUint_r50 : List LOper := [
  ⟨some 144,none,.mv false (.t 13)⟩,
  ⟨some 145,none,.mv false (.t 1)⟩,
  ⟨some 146,none,.conv .u64 (.t 145)⟩,
  ⟨some 147,none,.bin .mul (.t 144) (.t 146)⟩,
  ⟨some 13,none,.mv false (.t 147)⟩]
def strconv_ParseUint_r51 : List LOper := [
  ⟨some 148,none,.mv false (.t 13)⟩,
  ⟨some 149,none,.mv false (.t 16)⟩,
  ⟨some 150,none,.conv .u64 (.t 149)⟩,
  ⟨some 151,none,.bin .add (.t 148) (.t 150)⟩,
  ⟨some 17,none,.mv false (.t 151)⟩]
def strconv_ParseUint_r52 : List LOper := [
  ⟨some 152,none,.mv false (.t 17)⟩,
  ⟨some 153,none,.mv false (.t 13)⟩,
  ⟨some 154,none,.bin .lss (.t 152) (.t 153)⟩,
  ⟨some 155,none,.mv false (.t 154)⟩,
  ⟨some 156,some (155,false),.mv false (.t 17)⟩,
  ⟨some 157,some (155,false),.mv false (.t 11)⟩,
  ⟨some 158,some (155,false),.bin .gtr (.t 156) (.t 157)⟩,
  ⟨some 159,none,.pick (.t 155) (.c (.bool true)) (.t 158)⟩]
def strconv_ParseUint_r53 : List LOper := [
  ⟨some 160,none,.mv false (.t 11)⟩,
  ⟨some 161,none,.stuck⟩,
  ⟨some 6,none,.mv false (.t 160)⟩,
  ⟨some 7,none,.mv false (.t 161)⟩]
def strconv_ParseUint_r54 : List LOper := [
  ⟨some 162,none,.mv false (.t 17)⟩,
  ⟨some 13,none,.mv false (.t 162)⟩]
def strconv_ParseUint_r55 : List LOper := [
  ⟨some 163,none,.bin .add (.t 101) (.c (.int .i64 1))⟩,
  ⟨some 101,none,.mv false (.t 163)⟩]
def strconv_ParseUint_b0 : LCode := (.seq (.ops strconv_ParseUint_r36) (.seq (.cond (.t 102) .skip (.exit 3)) (.seq (.block 4 (.seq (.ops strconv_ParseUint_r37) (.seq (.ops strconv_ParseUint_r38) (.seq (.block 5 (.seq (.ops strconv_ParseUint_r39) (.cond (.t 106) (.seq (.ops strconv_ParseUint_r40) (.exit 4)) (.seq (.ops strconv_ParseUint_r41) (.cond (.t 112) (.ops strconv_ParseUint_r42) (.seq (.ops strconv_ParseUint_r43) (.cond (.t 121) (.ops strconv_ParseUint_r44) (.seq (.ops strconv_ParseUint_r45) .ret)))))))) (.seq (.seq (.ops strconv_ParseUint_r46) (.cond (.t 137) (.seq (.ops strconv_ParseUint_r47) .ret) .skip)) (.seq (.seq (.ops strconv_ParseUint_r48) (.cond (.t 141) (.seq (.ops strconv_ParseUint_r49) .ret) .skip)) (.seq (.ops strconv_ParseUint_r50) (.seq (.ops strconv_ParseUint_r51) (.seq (.seq (.ops strconv_ParseUint_r52) (.cond (.t 159) (.seq (.ops strconv_ParseUint_r53) .ret) .skip)) (.ops strconv_ParseUint_r54)))))))))) (.ops strconv_ParseUint_r55))))
def strconv_ParseUint_r56 : List LOper := [
  ⟨some 164,none,.mv false (.t 12)⟩,
  ⟨some 165,none,.mv false (.t 164)⟩,
  ⟨some 166,some (165,true),.mv false (.t 9)⟩,
  ⟨some 167,some (165,true),.call false 102 [(.t 166)]⟩,
  ⟨some 168,some (165,true),.un .not (.t 167)⟩,
  ⟨some 169,none,.pick (.t 165) (.t 168) (.c (.bool false))⟩]
def strconv_ParseUint_r57 : List LOper := [
  ⟨some 170,none,.stuck⟩,
  ⟨some 6,none,.mv false (.c (.int .u64 0))⟩,
  ⟨some 7,none,.mv false (.t 170)⟩]
def strconv_ParseUint_r58 : List LOper := [
  ⟨some 171,none,.mv false (.t 13)⟩,
  ⟨some 6,none,.mv false (.t 171)⟩,
  ⟨some 7,none,.mv false (.c (.nilif))⟩]
def strconv_ParseUint_f : LFunc := ⟨172,3,[.tmp 6,.tmp 7],(.seq (.ops strconv_ParseUint_r0) (.seq (.seq (.ops strconv_ParseUint_r1) (.cond (.t 19) (.seq (.ops strconv_ParseUint_r2) .ret) .skip)) (.seq (.ops strconv_ParseUint_r3) (.seq (.ops strconv_ParseUint_r4) (.seq (.block 0 (.seq (.ops strconv_ParseUint_r5) (.cond (.t 25) .skip (.seq (.ops strconv_ParseUint_r6) (.cond (.t 32) (.seq (.ops strconv_ParseUint_r7) (.seq (.ops strconv_ParseUint_r8) (.cond (.t 37) (.block 1 (.seq (.ops strconv_ParseUint_r9) (.cond (.t 40) (.seq (.ops strconv_ParseUint_r10) (.ops strconv_ParseUint_r11)) (.seq (.ops strconv_ParseUint_r12) (.cond (.t 52) (.seq (.ops strconv_ParseUint_r13) (.ops strconv_ParseUint_r14)) (.seq (.ops strconv_ParseUint_r15) (.cond (.t 64) (.seq (.ops strconv_ParseUint_r16) (.ops strconv_ParseUint_r17)) (.seq (.ops strconv_ParseUint_r18) (.ops strconv_ParseUint_r19))))))))) .skip))) (.seq (.ops strconv_ParseUint_r20) .ret)))))) (.seq (.seq (.ops strconv_ParseUint_r21) (.cond (.t 77) (.ops strconv_ParseUint_r22) (.seq (.ops strconv_ParseUint_r23) (.cond (.t 83) (.seq (.ops strconv_ParseUint_r24) .ret) .skip)))) (.seq (.ops strconv_ParseUint_r25) (.seq (.seq (.ops strconv_ParseUint_r26) (.block 2 (.seq (.ops strconv_ParseUint_r27) (.cond (.t 90) (.ops strconv_ParseUint_r28) (.seq (.ops strconv_ParseUint_r29) (.cond (.t 92) (.ops strconv_ParseUint_r30) (.ops strconv_ParseUint_r31))))))) (.seq (.ops strconv_ParseUint_r32) (.seq (.ops strconv_ParseUint_r33) (.seq (.ops strconv_ParseUint_r34) (.seq (.seq (.ops strconv_ParseUint_r35) (.block 3 (.loop [1,8,9,10,11,12,13,99,100,101] strconv_ParseUint_b0))) (.seq (.seq (.ops strconv_ParseUint_r56) (.cond (.t 169) (.seq (.ops strconv_ParseUint_r57) .ret) .skip)) (.seq (.ops strconv_ParseUint_r58) .ret))))))))))))))⟩
def strconv_ParseUint_v : VFunc := ⟨strconv_ParseUint_f,true,false,false⟩
theorem strconv_ParseUint_ok : preFunc Tryz.prog ⟨[],[],[]⟩ Tryz.f81 [[1,8,9,10,11,12,13,99,100,101]] = some strconv_ParseUint_f := by kernel_rfl

-- strings.CutPrefix
def strings_CutPrefix_r0 : List LOper := [
  ⟨some 4,none,.mv false (.c (.str []))⟩,
  ⟨some 5,none,.mv false (.c (.bool false))⟩]
def strings_CutPrefix_r1 : List LOper := [
  ⟨some 6,none,.mv false (.t 0)⟩,
  ⟨some 7,none,.mv false (.t 1)⟩,
  ⟨some 8,none,.call false 106 [(.t 6),(.t 7)]⟩,
  ⟨some 9,none,.extract 0 (.t 8)⟩,
  ⟨some 10,none,.extract 1 (.t 8)⟩,
  ⟨some 4,none,.mv false (.t 9)⟩,
  ⟨some 5,none,.mv false (.t 10)⟩]
def strings_CutPrefix_f : LFunc := ⟨11,2,[.tmp 4,.tmp 5],(.seq (.ops strings_CutPrefix_r0) (.seq (.ops strings_CutPrefix_r1) .ret))⟩
def strings_CutPrefix_v : VFunc := ⟨strings_CutPrefix_f,true,false,false⟩
theorem strings_CutPrefix_ok : preFunc Tryz.prog ⟨[],[],[]⟩ Tryz.f86 [] = some strings_CutPrefix_f := by kernel_rfl

-- gantry/nat.Read
def nat_Read_r0 : List LOper := [
  ⟨some 2,none,.mv false (.c (.str []))⟩,
  ⟨some 3,none,.mv false (.c (.int .i64 0))⟩]
def nat_Read_r1 : List LOper := [
  ⟨some 8,none,.mv false (.t 0)⟩,
  ⟨some 9,none,.lenS (.t 8)⟩,
  ⟨some 10,none,.bin .gtr (.t 9) (.c (.int .i64 2000))⟩]
def nat_Read_r2 : List LOper := [
  ⟨some 2,none,.mv false (.c (.str []))⟩,
  ⟨some 3,none,.mv false (.c (.int .i64 2))⟩]
def nat_Read_r3 : List LOper := [
  ⟨some 11,none,.mv false (.t 0)⟩,
  ⟨some 12,none,.bin .eql (.t 11) (.c (.str []))⟩,
  ⟨some 13,none,.mv false (.t 12)⟩,
  ⟨some 14,some (13,false),.mv false (.t 0)⟩,
  ⟨some 15,some (13,false),.lenS (.t 14)⟩,
  ⟨some 16,some (13,false),.bin .gtr (.t 15) (.c (.int .i64 1))⟩,
  ⟨some 17,some (13,false),.mv false (.t 16)⟩,
  ⟨some 18,some (17,true),.mv false (.t 0)⟩,
  ⟨some 19,some (17,true),.index (.t 18) (.c (.int .i64 0))⟩,
  ⟨some 20,some (17,true),.bin .eql (.t 19) (.c (.int .u8 48))⟩,
  ⟨some 21,some (13,false),.pick (.t 17) (.t 20) (.c (.bool false))⟩,
  ⟨some 22,none,.pick (.t 13) (.c (.bool true)) (.t 21)⟩]
def nat_Read_r4 : List LOper := [
  ⟨some 2,none,.mv false (.c (.str []))⟩,
  ⟨some 3,none,.mv false (.c (.int .i64 15))⟩]
def nat_Read_r5 : List LOper := [
  ⟨some 4,none,.mv true (.c (.nilslice))⟩]
def nat_Read_r6 : List LOper := [
  ⟨some 23,none,.mv false (.t 0)⟩,
  ⟨some 24,none,.lenS (.t 23)⟩,
  ⟨some 25,none,.mv false (.c (.int .i64 0))⟩]
def nat_Read_r7 : List LOper := [
  ⟨some 26,none,.bin .lss (.t 25) (.t 24)⟩]
def nat_Read_r8 : List LOper := [
  ⟨some 27,none,.mv false (.t 25)⟩,
  ⟨some 5,none,.mv false (.t 27)⟩]
def nat_Read_r9 : List LOper := [
  ⟨some 28,none,.mv false (.t 0)⟩,
  ⟨some 29,none,.mv false (.t 5)⟩,
  ⟨some 30,none,.index (.t 28) (.t 29)⟩,
  ⟨some 31,none,.bin .lss (.t 30) (.c (.int .u8 48))⟩,
  ⟨some 32,none,.mv false (.t 31)⟩,
  ⟨some 33,some (32,false),.mv false (.t 0)⟩,
  ⟨some 34,some (32,false),.mv false (.t 5)⟩,
  ⟨some 35,some (32,false),.index (.t 33) (.t 34)⟩,
  ⟨some 36,some (32,false),.bin .gtr (.t 35) (.c (.int .u8 57))⟩,
  ⟨some 37,none,.pick (.t 32) (.c (.bool true)) (.t 36)⟩]
def nat_Read_r10 : List LOper := [
  ⟨some 2,none,.mv false (.c (.str []))⟩,
  ⟨some 3,none,.mv false (.c (.int .i64 15))⟩]
def nat_Read_r11 : List LOper := [
  ⟨some 38,none,.mv false (.t 0)⟩,
  ⟨some 39,none,.mv false (.t 5)⟩,
  ⟨some 40,none,.index (.t 38) (.t 39)⟩,
  ⟨some 41,none,.bin .sub (.t 40) (.c (.int .u8 48))⟩,
  ⟨some 42,none,.conv .u64 (.t 41)⟩,
  ⟨some 6,none,.mv false (.t 42)⟩]
def nat_Read_r12 : List LOper := [
  ⟨some 43,none,.mv false (.t 4)⟩,
  ⟨some 44,none,.lenL (.t 43)⟩,
  ⟨some 45,none,.mv false (.c (.int .i64 0))⟩]
def nat_Read_r13 : List LOper := [
  ⟨some 46,none,.bin .lss (.t 45) (.t 44)⟩]
def nat_Read_r14 : List LOper := [
  ⟨some 47,none,.mv false (.t 45)⟩,
  ⟨some 7,none,.mv false (.t 47)⟩]
def nat_Read_r15 : List LOper := [
  ⟨some 48,none,.mv false (.t 6)⟩,
  ⟨some 49,none,.mv false (.t 4)⟩,
  ⟨some 50,none,.mv false (.t 7)⟩,
  ⟨some 51,none,.indexAddr 1 (.t 49) (.t 50)⟩,
  ⟨some 52,none,.load false false 1 (.t 51)⟩,
  ⟨some 53,none,.conv .u64 (.t 52)⟩,
  ⟨some 54,none,.bin .mul (.c (.int .u64 10)) (.t 53)⟩,
  ⟨some 55,none,.bin .add (.t 48) (.t 54)⟩,
  ⟨some 6,none,.mv false (.t 55)⟩]
def nat_Read_r16 : List LOper := [
  ⟨some 56,none,.mv false (.t 4)⟩,
  ⟨some 57,none,.mv false (.t 7)⟩,
  ⟨some 58,none,.mv false (.t 6)⟩,
  ⟨some 59,none,.conv .u32 (.t 58)⟩,
  ⟨some 60,none,.indexAddr 1 (.t 56) (.t 57)⟩,
  ⟨none,none,.store 1 (.t 60) (.t 59)⟩]
def nat_Read_r17 : List LOper := [
  ⟨some 61,none,.mv false (.t 6)⟩,
  ⟨some 62,none,.bin .shr (.t 61) (.c (.int .u64 32))⟩,
  ⟨some 6,none,.mv false (.t 62)⟩]
def nat_Read_r18 : List LOper := [
  ⟨some 63,none,.bin .add (.t 45) (.c (.int .i64 1))⟩,
  ⟨some 45,none,.mv false (.t 63)⟩]
def nat_Read_b1 : LCode := (.seq (.ops nat_Read_r13) (.seq (.cond (.t 46) .skip (.exit 2)) (.seq (.block 3 (.seq (.ops nat_Read_r14) (.seq (.ops nat_Read_r15) (.seq (.ops nat_Read_r16) (.ops nat_Read_r17))))) (.ops nat_Read_r18))))
def nat_Read_r19 : List LOper := [
  ⟨some 64,none,.mv false (.t 6)⟩,
  ⟨some 65,none,.bin .gtr (.t 64) (.c (.int .u64 0))⟩]
def nat_Read_r20 : List LOper := [
  ⟨some 66,none,.mv true (.t 4)⟩,
  ⟨some 67,none,.mv false (.t 6)⟩,
  ⟨some 68,none,.conv .u32 (.t 67)⟩,
  ⟨some 69,none,.bslice false 1 1 [.int .u32 0] [(0,1,(.t 68))]⟩,
  ⟨some 70,none,.append true 1 4 (.t 66) (.t 69)⟩,
  ⟨some 4,none,.mv true (.t 70)⟩]
def nat_Read_r21 : List LOper := [
  ⟨some 71,none,.bin .add (.t 25) (.c (.int .i64 1))⟩,
  ⟨some 25,none,.mv false (.t 71)⟩]
def nat_Read_b0 : LCode := (.seq (.ops nat_Read_r7) (.seq (.cond (.t 26) .skip (.exit 0)) (.seq (.block 1 (.seq (.ops nat_Read_r8) (.seq (.seq (.ops nat_Read_r9) (.cond (.t 37) (.seq (.ops nat_Read_r10) .ret) .skip)) (.seq (.ops nat_Read_r11) (.seq (.seq (.ops nat_Read_r12) (.block 2 (.loop [0,4,6,24,25,44,45] nat_Read_b1))) (.seq (.ops nat_Read_r19) (.cond (.t 65) (.ops nat_Read_r20) .skip))))))) (.ops nat_Read_r21))))
def nat_Read_r22 : List LOper := [
  ⟨some 72,none,.mv false (.t 4)⟩,
  ⟨some 73,none,.call false 107 [(.t 72)]⟩,
  ⟨some 2,none,.mv false (.t 73)⟩,
  ⟨some 3,none,.mv false (.c (.int .i64 0))⟩]
def nat_Read_f : LFunc := ⟨74,1,[.tmp 2,.tmp 3],(.seq (.ops nat_Read_r0) (.seq (.seq (.ops nat_Read_r1) (.cond (.t 10) (.seq (.ops nat_Read_r2) .ret) .skip)) (.seq (.seq (.ops nat_Read_r3) (.cond (.t 22) (.seq (.ops nat_Read_r4) .ret) .skip)) (.seq (.ops nat_Read_r5) (.seq (.seq (.ops nat_Read_r6) (.block 0 (.loop [0,4,24,25] nat_Read_b0))) (.seq (.ops nat_Read_r22) .ret))))))⟩
def nat_Read_v : VFunc := ⟨nat_Read_f,true,false,false⟩
theorem nat_Read_ok : preFunc Tryz.prog ⟨[4,66,70],[],[]⟩ Tryz.f87 [[0,4,24,25],[0,4,6,24,25,44,45]] = some nat_Read_f := by kernel_rfl

-- gantry/rat.made
def rat_made_r0 : List LOper := [
  ⟨some 6,none,.alloc [.bool false,.str [],.str []]⟩]
def rat_made_r1 : List LOper := [
  ⟨some 8,none,.mv false (.t 1)⟩,
  ⟨some 9,none,.bin .eql (.t 8) (.c (.str []))⟩]
def rat_made_r2 : List LOper := [
  ⟨some 10,none,.call false 77 []⟩,
  ⟨none,none,.store 3 (.t 6) (.t 10)⟩]
def rat_made_r3 : List LOper := [
  ⟨some 11,none,.mv false (.t 2)⟩,
  ⟨some 12,none,.bin .neq (.t 11) (.c (.str [1]))⟩]
def rat_made_r4 : List LOper := [
  ⟨some 13,none,.mv false (.t 1)⟩,
  ⟨some 14,none,.mv false (.t 2)⟩,
  ⟨some 15,none,.call false 89 [(.t 13),(.t 14)]⟩,
  ⟨some 7,none,.mv false (.t 15)⟩]
def rat_made_r5 : List LOper := [
  ⟨some 16,none,.mv false (.t 7)⟩,
  ⟨some 17,none,.bin .neq (.t 16) (.c (.str [1]))⟩]
def rat_made_r6 : List LOper := [
  ⟨some 19,none,.mv false (.t 1)⟩,
  ⟨some 20,none,.mv false (.t 7)⟩,
  ⟨some 21,none,.call false 108 [(.t 19),(.t 20)]⟩,
  ⟨some 18,none,.mv false (.t 21)⟩,
  ⟨some 22,none,.extract 0 (.t 18)⟩,
  ⟨some 23,none,.extract 1 (.t 18)⟩,
  ⟨some 24,none,.extract 2 (.t 18)⟩,
  ⟨some 1,none,.mv false (.t 22)⟩]
def rat_made_r7 : List LOper := [
  ⟨some 26,none,.mv false (.t 2)⟩,
  ⟨some 27,none,.mv false (.t 7)⟩,
  ⟨some 28,none,.call false 108 [(.t 26),(.t 27)]⟩,
  ⟨some 25,none,.mv false (.t 28)⟩,
  ⟨some 29,none,.extract 0 (.t 25)⟩,
  ⟨some 30,none,.extract 1 (.t 25)⟩,
  ⟨some 31,none,.extract 2 (.t 25)⟩,
  ⟨some 2,none,.mv false (.t 29)⟩]
def rat_made_r8 : List LOper := [
  ⟨some 32,none,.mv false (.t 0)⟩,
  ⟨some 33,none,.mv false (.t 1)⟩,
  ⟨some 34,none,.mv false (.t 2)⟩,
  ⟨some 35,none,.build [.bool false,.str [],.str []] [(0,1,(.t 32)),(1,1,(.t 33)),(2,1,(.t 34))]⟩,
  ⟨none,none,.store 3 (.t 6) (.t 35)⟩]
def rat_made_f : LFunc := ⟨36,3,[.cell 6 true 3],(.seq (.ops rat_made_r0) (.seq (.seq (.ops rat_made_r1) (.cond (.t 9) (.seq (.ops rat_made_r2) .ret) .skip)) (.seq (.seq (.ops rat_made_r3) (.cond (.t 12) (.seq (.ops rat_made_r4) (.seq (.ops rat_made_r5) (.cond (.t 17) (.seq (.ops rat_made_r6) (.ops rat_made_r7)) .skip))) .skip)) (.seq (.ops rat_made_r8) .ret))))⟩
def rat_made_v : VFunc := ⟨rat_made_f,true,false,false⟩
theorem rat_made_ok : preFunc Tryz.prog ⟨[],[],[]⟩ Tryz.f88 [] = some rat_made_f := by kernel_rfl

-- gantry/nat.Gcd
def nat_Gcd_r0 : List LOper := [
  ⟨some 4,none,.mv false (.c (.str []))⟩]
def nat_Gcd_r1 : List LOper := [
  ⟨some 8,none,.mv false (.t 0)⟩,
  ⟨some 9,none,.call false 92 [(.t 8)]⟩,
  ⟨some 10,none,.mv false (.t 1)⟩,
  ⟨some 11,none,.call false 92 [(.t 10)]⟩,
  ⟨some 0,none,.mv false (.t 9)⟩,
  ⟨some 1,none,.mv false (.t 11)⟩]
def nat_Gcd_r2 : List LOper := [
  ⟨some 12,none,.mv false (.t 0)⟩,
  ⟨some 13,none,.bin .neq (.t 12) (.c (.str []))⟩,
  ⟨some 14,none,.mv false (.t 13)⟩,
  ⟨some 15,some (14,true),.mv false (.t 1)⟩,
  ⟨some 16,some (14,true),.bin .neq (.t 15) (.c (.str []))⟩,
  ⟨some 17,none,.pick (.t 14) (.t 16) (.c (.bool false))⟩]
def nat_Gcd_r3 : List LOper := [
  ⟨some 18,none,.mv false (.t 0)⟩,
  ⟨some 19,none,.lenS (.t 18)⟩,
  ⟨some 20,none,.mv false (.t 1)⟩,
  ⟨some 21,none,.lenS (.t 20)⟩,
  ⟨some 22,none,.bin .lss (.t 19) (.t 21)⟩]
def nat_Gcd_r4 : List LOper := [
  ⟨some 23,none,.mv false (.t 1)⟩,
  ⟨some 24,none,.mv false (.t 0)⟩,
  ⟨some 0,none,.mv false (.t 23)⟩,
  ⟨some 1,none,.mv false (.t 24)⟩]
def nat_Gcd_r5 : List LOper := [
  ⟨some 26,none,.mv false (.t 0)⟩,
  ⟨some 27,none,.lenS (.t 26)⟩,
  ⟨some 28,none,.bin .leq (.t 27) (.c (.int .i64 8))⟩,
  ⟨some 25,none,.mv false (.t 28)⟩]
def nat_Gcd_r6 : List LOper := [
  ⟨some 29,none,.mv false (.t 0)⟩,
  ⟨some 30,none,.call false 111 [(.t 29)]⟩,
  ⟨some 31,none,.mv false (.t 1)⟩,
  ⟨some 32,none,.call false 111 [(.t 31)]⟩,
  ⟨some 33,none,.call false 110 [(.t 30),(.t 32)]⟩,
  ⟨some 34,none,.call false 109 [(.t 33)]⟩,
  ⟨some 4,none,.mv false (.t 34)⟩]
def nat_Gcd_r7 : List LOper := [
  ⟨some 36,none,.mv false (.t 0)⟩,
  ⟨some 37,none,.lenS (.t 36)⟩,
  ⟨some 38,none,.mv false (.t 1)⟩,
  ⟨some 39,none,.lenS (.t 38)⟩,
  ⟨some 40,none,.bin .add (.t 39) (.c (.int .i64 8))⟩,
  ⟨some 41,none,.bin .leq (.t 37) (.t 40)⟩,
  ⟨some 35,none,.mv false (.t 41)⟩]
def nat_Gcd_r8 : List LOper := [
  ⟨some 42,none,.mv false (.t 0)⟩,
  ⟨some 43,none,.mv false (.t 1)⟩,
  ⟨some 44,none,.call false 112 [(.t 42),(.t 43)]⟩,
  ⟨some 4,none,.mv false (.t 44)⟩]
def nat_Gcd_r9 : List LOper := [
  ⟨some 46,none,.mv false (.t 0)⟩,
  ⟨some 47,none,.mv false (.t 1)⟩,
  ⟨some 48,none,.call false 108 [(.t 46),(.t 47)]⟩,
  ⟨some 45,none,.mv false (.t 48)⟩,
  ⟨some 49,none,.extract 0 (.t 45)⟩,
  ⟨some 50,none,.extract 1 (.t 45)⟩,
  ⟨some 51,none,.extract 2 (.t 45)⟩,
  ⟨some 5,none,.mv false (.t 49)⟩,
  ⟨some 6,none,.mv false (.t 50)⟩,
  ⟨some 7,none,.mv false (.t 51)⟩]
def nat_Gcd_r10 : List LOper := [
  ⟨some 52,none,.mv false (.t 1)⟩,
  ⟨some 53,none,.mv false (.t 6)⟩,
  ⟨some 0,none,.mv false (.t 52)⟩,
  ⟨some 1,none,.mv false (.t 53)⟩]
def nat_Gcd_b0 : LCode := (.seq (.seq (.ops nat_Gcd_r2) (.cond (.t 17) .skip (.exit 0))) (.block 1 (.seq (.seq (.ops nat_Gcd_r3) (.cond (.t 22) (.ops nat_Gcd_r4) .skip)) (.seq (.block 2 (.seq (.ops nat_Gcd_r5) (.cond (.t 25) (.seq (.ops nat_Gcd_r6) .ret) (.seq (.ops nat_Gcd_r7) (.cond (.t 35) (.seq (.ops nat_Gcd_r8) .ret) .skip))))) (.seq (.ops nat_Gcd_r9) (.ops nat_Gcd_r10))))))
def nat_Gcd_r11 : List LOper := [
  ⟨some 54,none,.mv false (.t 0)⟩,
  ⟨some 55,none,.mv false (.t 1)⟩,
  ⟨some 56,none,.bin .add (.t 54) (.t 55)⟩,
  ⟨some 4,none,.mv false (.t 56)⟩]
def nat_Gcd_f : LFunc := ⟨57,2,[.tmp 4],(.seq (.ops nat_Gcd_r0) (.seq (.ops nat_Gcd_r1) (.seq (.block 0 (.loop [0,1] nat_Gcd_b0)) (.seq (.ops nat_Gcd_r11) .ret))))⟩
def nat_Gcd_v : VFunc := ⟨nat_Gcd_f,true,false,false⟩
theorem nat_Gcd_ok : preFunc Tryz.prog ⟨[],[],[]⟩ Tryz.f89 [[0,1]] = some nat_Gcd_f := by kernel_rfl

-- gantry/nat.Cmp
def nat_Cmp_r0 : List LOper := [
  ⟨some 4,none,.mv false (.c (.int .i64 0))⟩]
def nat_Cmp_r1 : List LOper := [
  ⟨some 5,none,.mv false (.t 0)⟩,
  ⟨some 6,none,.call false 92 [(.t 5)]⟩,
  ⟨some 7,none,.mv false (.t 1)⟩,
  ⟨some 8,none,.call false 92 [(.t 7)]⟩,
  ⟨some 0,none,.mv false (.t 6)⟩,
  ⟨some 1,none,.mv false (.t 8)⟩]
def nat_Cmp_r2 : List LOper := [
  ⟨some 10,none,.mv false (.t 0)⟩,
  ⟨some 11,none,.lenS (.t 10)⟩,
  ⟨some 12,none,.mv false (.t 1)⟩,
  ⟨some 13,none,.lenS (.t 12)⟩,
  ⟨some 14,none,.bin .lss (.t 11) (.t 13)⟩,
  ⟨some 9,none,.mv false (.t 14)⟩]
def nat_Cmp_r3 : List LOper := [
  ⟨some 4,none,.mv false (.c (.int .i64 (-1)))⟩]
def nat_Cmp_r4 : List LOper := [
  ⟨some 16,none,.mv false (.t 0)⟩,
  ⟨some 17,none,.lenS (.t 16)⟩,
  ⟨some 18,none,.mv false (.t 1)⟩,
  ⟨some 19,none,.lenS (.t 18)⟩,
  ⟨some 20,none,.bin .gtr (.t 17) (.t 19)⟩,
  ⟨some 15,none,.mv false (.t 20)⟩]
def nat_Cmp_r5 : List LOper := [
  ⟨some 4,none,.mv false (.c (.int .i64 1))⟩]
def nat_Cmp_r6 : List LOper := [
  ⟨some 21,none,.mv false (.t 0)⟩,
  ⟨some 22,none,.mv false (.t 1)⟩,
  ⟨some 23,none,.call false 113 [(.t 21),(.t 22)]⟩,
  ⟨some 4,none,.mv false (.t 23)⟩]
def nat_Cmp_f : LFunc := ⟨24,2,[.tmp 4],(.seq (.ops nat_Cmp_r0) (.seq (.ops nat_Cmp_r1) (.seq (.block 0 (.seq (.ops nat_Cmp_r2) (.cond (.t 9) (.seq (.ops nat_Cmp_r3) .ret) (.seq (.ops nat_Cmp_r4) (.cond (.t 15) (.seq (.ops nat_Cmp_r5) .ret) .skip))))) (.seq (.ops nat_Cmp_r6) .ret))))⟩
def nat_Cmp_v : VFunc := ⟨nat_Cmp_f,true,false,false⟩
theorem nat_Cmp_ok : preFunc Tryz.prog ⟨[],[],[]⟩ Tryz.f90 [] = some nat_Cmp_f := by kernel_rfl

-- gantry/nat.Of
def nat_Of_r0 : List LOper := [
  ⟨some 2,none,.mv false (.c (.str []))⟩]
def nat_Of_r1 : List LOper := [
  ⟨some 3,none,.mv false (.t 0)⟩,
  ⟨some 4,none,.bin .lss (.t 3) (.c (.int .i64 1))⟩]
def nat_Of_r2 : List LOper := [
  ⟨some 2,none,.mv false (.c (.str []))⟩]
def nat_Of_r3 : List LOper := [
  ⟨some 5,none,.mv false (.t 0)⟩,
  ⟨some 6,none,.conv .u64 (.t 5)⟩,
  ⟨some 7,none,.call false 109 [(.t 6)]⟩,
  ⟨some 2,none,.mv false (.t 7)⟩]
def nat_Of_f : LFunc := ⟨8,1,[.tmp 2],(.seq (.ops nat_Of_r0) (.seq (.seq (.ops nat_Of_r1) (.cond (.t 4) (.seq (.ops nat_Of_r2) .ret) .skip)) (.seq (.ops nat_Of_r3) .ret)))⟩
def nat_Of_v : VFunc := ⟨nat_Of_f,true,false,false⟩
theorem nat_Of_ok : preFunc Tryz.prog ⟨[],[],[]⟩ Tryz.f91 [] = some nat_Of_f := by kernel_rfl

-- gantry/nat.trim
def nat_trim_r0 : List LOper := [
  ⟨some 2,none,.mv false (.c (.str []))⟩]
def nat_trim_r1 : List LOper := [
  ⟨some 3,none,.mv false (.t 0)⟩,
  ⟨some 4,none,.lenS (.t 3)⟩,
  ⟨some 5,none,.bin .gtr (.t 4) (.c (.int .i64 0))⟩,
  ⟨some 6,none,.mv false (.t 5)⟩,
  ⟨some 7,some (6,true),.mv false (.t 0)⟩,
  ⟨some 8,some (6,true),.index (.t 7) (.c (.int .i64 0))⟩,
  ⟨some 9,some (6,true),.bin .eql (.t 8) (.c (.int .u8 0))⟩,
  ⟨some 10,none,.pick (.t 6) (.t 9) (.c (.bool false))⟩]
def nat_trim_r2 : List LOper := [
  ⟨some 11,none,.mv false (.t 0)⟩,
  ⟨some 12,none,.slc 0 (.t 11) (some (.c (.int .i64 1))) none none⟩,
  ⟨some 0,none,.mv false (.t 12)⟩]
def nat_trim_b0 : LCode := (.seq (.seq (.ops nat_trim_r1) (.cond (.t 10) .skip (.exit 0))) (.block 1 (.ops nat_trim_r2)))
def nat_trim_r3 : List LOper := [
  ⟨some 13,none,.mv false (.t 0)⟩,
  ⟨some 2,none,.mv false (.t 13)⟩]
def nat_trim_f : LFunc := ⟨14,1,[.tmp 2],(.seq (.ops nat_trim_r0) (.seq (.block 0 (.loop [0] nat_trim_b0)) (.seq (.ops nat_trim_r3) .ret)))⟩
def nat_trim_v : VFunc := ⟨nat_trim_f,true,false,false⟩
theorem nat_trim_ok : preFunc Tryz.prog ⟨[],[],[]⟩ Tryz.f92 [[0]] = some nat_trim_f := by kernel_rfl

-- internal/strconv.small
def strconv_small_r0 : List LOper := [
  ⟨some 2,none,.mv false (.c (.str []))⟩]
def strconv_small_r1 : List LOper := [
  ⟨some 3,none,.mv false (.t 0)⟩,
  ⟨some 4,none,.bin .lss (.t 3) (.c (.int .i64 10))⟩]
def strconv_small_r2 : List LOper := [
  ⟨some 5,none,.mv false (.t 0)⟩,
  ⟨some 6,none,.mv false (.t 0)⟩,
  ⟨some 7,none,.bin .add (.t 6) (.c (.int .i64 1))⟩,
  ⟨some 8,none,.slc 0 (.c (.str [48,49,50,51,52,53,54,55,56,57,97,98,99,100,101,102,103,104,105,106,107,108,109,110,111,112,113,114,115,116,117,118,119,120,121,122])) (some (.t 5)) (some (.t 7)) none⟩,
  ⟨some 2,none,.mv false (.t 8)⟩]
def strconv_small_r3 : List LOper := [
  ⟨some 9,none,.mv false (.t 0)⟩,
  ⟨some 10,none,.bin .mul (.t 9) (.c (.int .i64 2))⟩,
  ⟨some 11,none,.mv false (.t 0)⟩,
  ⟨some 12,none,.bin .mul (.t 11) (.c (.int .i64 2))⟩,
  ⟨some 13,none,.bin .add (.t 12) (.c (.int .i64 2))⟩,
  ⟨some 14,none,.slc 0 (.c (.str [48,48,48,49,48,50,48,51,48,52,48,53,48,54,48,55,48,56,48,57,49,48,49,49,49,50,49,51,49,52,49,53,49,54,49,55,49,56,49,57,50,48,50,49,50,50,50,51,50,52,50,53,50,54,50,55,50,56,50,57,51,48,51,49,51,50,51,51,51,52,51,53,51,54,51,55,51,56,51,57,52,48,52,49,52,50,52,51,52,52,52,53,52,54,52,55,52,56,52,57,53,48,53,49,53,50,53,51,53,52,53,53,53,54,53,55,53,56,53,57,54,48,54,49,54,50,54,51,54,52,54,53,54,54,54,55,54,56,54,57,55,48,55,49,55,50,55,51,55,52,55,53,55,54,55,55,55,56,55,57,56,48,56,49,56,50,56,51,56,52,56,53,56,54,56,55,56,56,56,57,57,48,57,49,57,50,57,51,57,52,57,53,57,54,57,55,57,56,57,57])) (some (.t 10)) (some (.t 13)) none⟩,
  ⟨some 2,none,.mv false (.t 14)⟩]
def strconv_small_f : LFunc := ⟨15,1,[.tmp 2],(.seq (.ops strconv_small_r0) (.seq (.seq (.ops strconv_small_r1) (.cond (.t 4) (.seq (.ops strconv_small_r2) .ret) .skip)) (.seq (.ops strconv_small_r3) .ret)))⟩
def strconv_small_v : VFunc := ⟨strconv_small_f,true,false,false⟩
theorem strconv_small_ok : preFunc Tryz.prog ⟨[],[],[]⟩ Tryz.f93 [] = some strconv_small_f := by kernel_rfl

-- internal/stringslite.CutPrefix
def stringslite_CutPrefix_r0 : List LOper := [
  ⟨some 4,none,.mv false (.c (.str []))⟩,
  ⟨some 5,none,.mv false (.c (.bool false))⟩]
def stringslite_CutPrefix_r1 : List LOper := [
  ⟨some 6,none,.mv false (.t 0)⟩,
  ⟨some 7,none,.mv false (.t 1)⟩,
  ⟨some 8,none,.call false 122 [(.t 6),(.t 7)]⟩,
  ⟨some 9,none,.un .not (.t 8)⟩]
def stringslite_CutPrefix_r2 : List LOper := [
  ⟨some 10,none,.mv false (.t 0)⟩,
  ⟨some 4,none,.mv false (.t 10)⟩,
  ⟨some 5,none,.mv false (.c (.bool false))⟩]
def stringslite_CutPrefix_r3 : List LOper := [
  ⟨some 11,none,.mv false (.t 0)⟩,
  ⟨some 12,none,.mv false (.t 1)⟩,
  ⟨some 13,none,.lenS (.t 12)⟩,
  ⟨some 14,none,.slc 0 (.t 11) (some (.t 13)) none none⟩,
  ⟨some 4,none,.mv false (.t 14)⟩,
  ⟨some 5,none,.mv false (.c (.bool true))⟩]
def stringslite_CutPrefix_f : LFunc := ⟨15,2,[.tmp 4,.tmp 5],(.seq (.ops stringslite_CutPrefix_r0) (.seq (.seq (.ops stringslite_CutPrefix_r1) (.cond (.t 9) (.seq (.ops stringslite_CutPrefix_r2) .ret) .skip)) (.seq (.ops stringslite_CutPrefix_r3) .ret)))⟩
def stringslite_CutPrefix_v : VFunc := ⟨stringslite_CutPrefix_f,true,false,false⟩
theorem stringslite_CutPrefix_ok : preFunc Tryz.prog ⟨[],[],[]⟩ Tryz.f106 [] = some stringslite_CutPrefix_f := by kernel_rfl

-- gantry/nat.text
def nat_text_r0 : List LOper := [
  ⟨some 2,none,.mv false (.c (.str []))⟩]
def nat_text_r1 : List LOper := [
  ⟨some 7,none,.mv false (.t 0)⟩,
  ⟨some 8,none,.lenL (.t 7)⟩,
  ⟨some 9,none,.bin .mul (.c (.int .i64 4)) (.t 8)⟩,
  ⟨some 10,none,.make true 1 1 [.int .u8 0] (.t 9) (.t 9)⟩,
  ⟨some 3,none,.mv false (.t 10)⟩]
def nat_text_r2 : List LOper := [
  ⟨some 11,none,.mv false (.t 0)⟩,
  ⟨some 12,none,.lenL (.t 11)⟩,
  ⟨some 13,none,.mv false (.c (.int .i64 0))⟩]
def nat_text_r3 : List LOper := [
  ⟨some 14,none,.bin .lss (.t 13) (.t 12)⟩]
def nat_text_r4 : List LOper := [
  ⟨some 15,none,.mv false (.t 13)⟩,
  ⟨some 16,none,.indexAddr 1 (.t 11) (.t 13)⟩,
  ⟨some 17,none,.load false false 1 (.t 16)⟩,
  ⟨some 4,none,.mv false (.t 15)⟩,
  ⟨some 5,none,.mv false (.t 17)⟩]
def nat_text_r5 : List LOper := [
  ⟨some 18,none,.mv false (.t 0)⟩,
  ⟨some 19,none,.lenL (.t 18)⟩,
  ⟨some 20,none,.bin .sub (.t 19) (.c (.int .i64 1))⟩,
  ⟨some 21,none,.mv false (.t 4)⟩,
  ⟨some 22,none,.bin .sub (.t 20) (.t 21)⟩,
  ⟨some 23,none,.bin .mul (.c (.int .i64 4)) (.t 22)⟩,
  ⟨some 6,none,.mv false (.t 23)⟩]
def nat_text_r6 : List LOper := [
  ⟨some 24,none,.mv false (.t 3)⟩,
  ⟨some 25,none,.mv false (.t 6)⟩,
  ⟨some 26,none,.mv false (.t 3)⟩,
  ⟨some 27,none,.mv false (.t 6)⟩,
  ⟨some 28,none,.bin .add (.t 27) (.c (.int .i64 1))⟩,
  ⟨some 29,none,.mv false (.t 3)⟩,
  ⟨some 30,none,.mv false (.t 6)⟩,
  ⟨some 31,none,.bin .add (.t 30) (.c (.int .i64 2))⟩,
  ⟨some 32,none,.mv false (.t 3)⟩,
  ⟨some 33,none,.mv false (.t 6)⟩,
  ⟨some 34,none,.bin .add (.t 33) (.c (.int .i64 3))⟩,
  ⟨some 35,none,.mv false (.t 5)⟩,
  ⟨some 36,none,.bin .shr (.t 35) (.c (.int .u64 24))⟩,
  ⟨some 37,none,.conv .u8 (.t 36)⟩,
  ⟨some 38,none,.mv false (.t 5)⟩,
  ⟨some 39,none,.bin .shr (.t 38) (.c (.int .u64 16))⟩,
  ⟨some 40,none,.conv .u8 (.t 39)⟩,
  ⟨some 41,none,.mv false (.t 5)⟩,
  ⟨some 42,none,.bin .shr (.t 41) (.c (.int .u64 8))⟩,
  ⟨some 43,none,.conv .u8 (.t 42)⟩,
  ⟨some 44,none,.mv false (.t 5)⟩,
  ⟨some 45,none,.conv .u8 (.t 44)⟩,
  ⟨some 46,none,.indexAddr 1 (.t 24) (.t 25)⟩,
  ⟨none,none,.store 1 (.t 46) (.t 37)⟩,
  ⟨some 47,none,.indexAddr 1 (.t 26) (.t 28)⟩,
  ⟨none,none,.store 1 (.t 47) (.t 40)⟩,
  ⟨some 48,none,.indexAddr 1 (.t 29) (.t 31)⟩,
  ⟨none,none,.store 1 (.t 48) (.t 43)⟩,
  ⟨some 49,none,.indexAddr 1 (.t 32) (.t 34)⟩,
  ⟨none,none,.store 1 (.t 49) (.t 45)⟩]
def nat_text_r7 : List LOper := [
  ⟨some 50,none,.bin .add (.t 13) (.c (.int .i64 1))⟩,
  ⟨some 13,none,.mv false (.t 50)⟩]
def nat_text_b0 : LCode := (.seq (.ops nat_text_r3) (.seq (.cond (.t 14) .skip (.exit 0)) (.seq (.block 1 (.seq (.ops nat_text_r4) (.seq (.ops nat_text_r5) (.ops nat_text_r6)))) (.ops nat_text_r7))))
def nat_text_r8 : List LOper := [
  ⟨some 51,none,.mv false (.t 3)⟩,
  ⟨some 52,none,.b2s (.t 51)⟩,
  ⟨some 53,none,.call false 92 [(.t 52)]⟩,
  ⟨some 2,none,.mv false (.t 53)⟩]
def nat_text_f : LFunc := ⟨54,1,[.tmp 2],(.seq (.ops nat_text_r0) (.seq (.ops nat_text_r1) (.seq (.seq (.ops nat_text_r2) (.block 0 (.loop [0,3,11,12,13] nat_text_b0))) (.seq (.ops nat_text_r8) .ret))))⟩
def nat_text_v : VFunc := ⟨nat_text_f,false,false,false⟩
theorem nat_text_ok : preFunc Tryz.prog ⟨[],[],[]⟩ Tryz.f107 [[0,3,11,12,13]] = some nat_text_f := by kernel_rfl

-- gantry/nat.Div
def nat_Div_r0 : List LOper := [
  ⟨some 4,none,.mv false (.c (.str []))⟩,
  ⟨some 5,none,.mv false (.c (.str []))⟩,
  ⟨some 6,none,.mv false (.c (.int .i64 0))⟩]
def nat_Div_r1 : List LOper := [
  ⟨some 13,none,.mv false (.t 0)⟩,
  ⟨some 14,none,.call false 92 [(.t 13)]⟩,
  ⟨some 15,none,.mv false (.t 1)⟩,
  ⟨some 16,none,.call false 92 [(.t 15)]⟩,
  ⟨some 0,none,.mv false (.t 14)⟩,
  ⟨some 1,none,.mv false (.t 16)⟩]
def nat_Div_r2 : List LOper := [
  ⟨some 18,none,.mv false (.t 1)⟩,
  ⟨some 19,none,.bin .eql (.t 18) (.c (.str []))⟩,
  ⟨some 17,none,.mv false (.t 19)⟩]
def nat_Div_r3 : List LOper := [
  ⟨some 4,none,.mv false (.c (.str []))⟩,
  ⟨some 5,none,.mv false (.c (.str []))⟩,
  ⟨some 6,none,.mv false (.c (.int .i64 12))⟩]
def nat_Div_r4 : List LOper := [
  ⟨some 21,none,.mv false (.t 0)⟩,
  ⟨some 22,none,.lenS (.t 21)⟩,
  ⟨some 23,none,.bin .leq (.t 22) (.c (.int .i64 8))⟩,
  ⟨some 24,none,.mv false (.t 23)⟩,
  ⟨some 25,some (24,true),.mv false (.t 1)⟩,
  ⟨some 26,some (24,true),.lenS (.t 25)⟩,
  ⟨some 27,some (24,true),.bin .leq (.t 26) (.c (.int .i64 8))⟩,
  ⟨some 28,none,.pick (.t 24) (.t 27) (.c (.bool false))⟩,
  ⟨some 20,none,.mv false (.t 28)⟩]
def nat_Div_r5 : List LOper := [
  ⟨some 29,none,.mv false (.t 0)⟩,
  ⟨some 30,none,.call false 111 [(.t 29)]⟩,
  ⟨some 31,none,.mv false (.t 1)⟩,
  ⟨some 32,none,.call false 111 [(.t 31)]⟩,
  ⟨some 33,none,.bin .quo (.t 30) (.t 32)⟩,
  ⟨some 34,none,.call false 109 [(.t 33)]⟩,
  ⟨some 35,none,.mv false (.t 0)⟩,
  ⟨some 36,none,.call false 111 [(.t 35)]⟩,
  ⟨some 37,none,.mv false (.t 1)⟩,
  ⟨some 38,none,.call false 111 [(.t 37)]⟩,
  ⟨some 39,none,.bin .rem (.t 36) (.t 38)⟩,
  ⟨some 40,none,.call false 109 [(.t 39)]⟩,
  ⟨some 4,none,.mv false (.t 34)⟩,
  ⟨some 5,none,.mv false (.t 40)⟩,
  ⟨some 6,none,.mv false (.c (.int .i64 0))⟩]
def nat_Div_r6 : List LOper := [
  ⟨some 42,none,.mv false (.t 0)⟩,
  ⟨some 43,none,.mv false (.t 1)⟩,
  ⟨some 44,none,.call false 90 [(.t 42),(.t 43)]⟩,
  ⟨some 45,none,.bin .lss (.t 44) (.c (.int .i64 0))⟩,
  ⟨some 41,none,.mv false (.t 45)⟩]
def nat_Div_r7 : List LOper := [
  ⟨some 46,none,.mv false (.t 0)⟩,
  ⟨some 4,none,.mv false (.c (.str []))⟩,
  ⟨some 5,none,.mv false (.t 46)⟩,
  ⟨some 6,none,.mv false (.c (.int .i64 0))⟩]
def nat_Div_r8 : List LOper := [
  ⟨some 47,none,.mv false (.t 0)⟩,
  ⟨some 48,none,.call false 78 [(.t 47)]⟩,
  ⟨some 49,none,.mv false (.t 1)⟩,
  ⟨some 50,none,.call false 78 [(.t 49)]⟩,
  ⟨some 7,none,.mv false (.t 48)⟩,
  ⟨some 8,none,.mv false (.t 50)⟩]
def nat_Div_r9 : List LOper := [
  ⟨some 51,none,.mv false (.t 8)⟩,
  ⟨some 52,none,.lenL (.t 51)⟩,
  ⟨some 53,none,.bin .eql (.t 52) (.c (.int .i64 1))⟩]
def nat_Div_r10 : List LOper := [
  ⟨some 9,none,.mv false (.c (.int .u64 0))⟩]
def nat_Div_r11 : List LOper := [
  ⟨some 54,none,.mv false (.t 7)⟩,
  ⟨some 55,none,.lenL (.t 54)⟩,
  ⟨some 56,none,.bin .sub (.t 55) (.c (.int .i64 1))⟩,
  ⟨some 10,none,.mv false (.t 56)⟩]
def nat_Div_r12 : List LOper := [
  ⟨some 57,none,.mv false (.t 10)⟩,
  ⟨some 58,none,.bin .geq (.t 57) (.c (.int .i64 0))⟩]
def nat_Div_r13 : List LOper := [
  ⟨some 61,none,.mv false (.t 9)⟩,
  ⟨some 62,none,.bin .shl (.t 61) (.c (.int .u64 32))⟩,
  ⟨some 63,none,.mv false (.t 7)⟩,
  ⟨some 64,none,.mv false (.t 10)⟩,
  ⟨some 65,none,.indexAddr 1 (.t 63) (.t 64)⟩,
  ⟨some 66,none,.load false false 1 (.t 65)⟩,
  ⟨some 67,none,.conv .u64 (.t 66)⟩,
  ⟨some 68,none,.bin .or (.t 62) (.t 67)⟩,
  ⟨some 9,none,.mv false (.t 68)⟩]
def nat_Div_r14 : List LOper := [
  ⟨some 69,none,.mv false (.t 7)⟩,
  ⟨some 70,none,.mv false (.t 10)⟩,
  ⟨some 71,none,.mv false (.t 9)⟩,
  ⟨some 72,none,.mv false (.t 8)⟩,
  ⟨some 73,none,.indexAddr 1 (.t 72) (.c (.int .i64 0))⟩,
  ⟨some 74,none,.load false false 1 (.t 73)⟩,
  ⟨some 75,none,.conv .u64 (.t 74)⟩,
  ⟨some 76,none,.bin .quo (.t 71) (.t 75)⟩,
  ⟨some 77,none,.conv .u32 (.t 76)⟩,
  ⟨some 78,none,.mv false (.t 9)⟩,
  ⟨some 79,none,.mv false (.t 8)⟩,
  ⟨some 80,none,.indexAddr 1 (.t 79) (.c (.int .i64 0))⟩,
  ⟨some 81,none,.load false false 1 (.t 80)⟩,
  ⟨some 82,none,.conv .u64 (.t 81)⟩,
  ⟨some 83,none,.bin .rem (.t 78) (.t 82)⟩,
  ⟨some 84,none,.indexAddr 1 (.t 69) (.t 70)⟩,
  ⟨none,none,.store 1 (.t 84) (.t 77)⟩,
  ⟨some 9,none,.mv false (.t 83)⟩]
theorem nat_Div_r14_d : drawC [0,0,0,0,8,24,56,124,252,0,0,1024,3072,7168,15872,7679,40447,131071] [
  ⟨some 69,none,.mv false (.t 7)⟩,
  ⟨some 70,none,.mv false (.t 10)⟩,
  ⟨some 71,none,.mv false (.t 9)⟩,
  ⟨some 72,none,.mv false (.t 8)⟩,
  ⟨some 73,none,.indexAddr 1 (.t 72) (.c (.int .i64 0))⟩,
  ⟨some 74,none,.load false false 1 (.t 73)⟩,
  ⟨some 75,none,.conv .u64 (.t 74)⟩,
  ⟨some 76,none,.bin .quo (.t 71) (.t 75)⟩,
  ⟨some 77,none,.conv .u32 (.t 76)⟩,
  ⟨some 78,none,.mv false (.t 9)⟩,
  ⟨some 79,none,.mv false (.t 8)⟩,
  ⟨some 80,none,.indexAddr 1 (.t 79) (.c (.int .i64 0))⟩,
  ⟨some 81,none,.load false false 1 (.t 80)⟩,
  ⟨some 82,none,.conv .u64 (.t 81)⟩,
  ⟨some 83,none,.bin .rem (.t 78) (.t 82)⟩,
  ⟨some 84,none,.indexAddr 1 (.t 69) (.t 70)⟩,
  ⟨none,none,.store 1 (.t 84) (.t 77)⟩,
  ⟨some 9,none,.mv false (.t 83)⟩] = true := by kernel_rfl
def nat_Div_r15 : List LOper := [
  ⟨some 59,none,.mv false (.t 10)⟩,
  ⟨some 60,none,.bin .sub (.t 59) (.c (.int .i64 1))⟩,
  ⟨some 10,none,.mv false (.t 60)⟩]
def nat_Div_b0 : LCode := (.seq (.seq (.ops nat_Div_r12) (.cond (.t 58) .skip (.exit 1))) (.seq (.block 2 (.seq (.ops nat_Div_r13) (.dops [0,0,0,0,8,24,56,124,252,0,0,1024,3072,7168,15872,7679,40447,131071] nat_Div_r14))) (.ops nat_Div_r15)))
def nat_Div_r16 : List LOper := [
  ⟨some 85,none,.mv false (.t 7)⟩,
  ⟨some 86,none,.call false 107 [(.t 85)]⟩,
  ⟨some 87,none,.mv false (.t 9)⟩,
  ⟨some 88,none,.call false 109 [(.t 87)]⟩,
  ⟨some 4,none,.mv false (.t 86)⟩,
  ⟨some 5,none,.mv false (.t 88)⟩,
  ⟨some 6,none,.mv false (.c (.int .i64 0))⟩]
def nat_Div_r17 : List LOper := [
  ⟨some 90,none,.mv false (.t 7)⟩,
  ⟨some 91,none,.mv false (.t 8)⟩,
  ⟨some 92,none,.call false 123 [(.t 90),(.t 91)]⟩,
  ⟨some 89,none,.mv false (.t 92)⟩,
  ⟨some 93,none,.extract 0 (.t 89)⟩,
  ⟨some 94,none,.extract 1 (.t 89)⟩,
  ⟨some 11,none,.mv false (.t 93)⟩,
  ⟨some 12,none,.mv false (.t 94)⟩]
def nat_Div_r18 : List LOper := [
  ⟨some 95,none,.mv false (.t 11)⟩,
  ⟨some 96,none,.call false 107 [(.t 95)]⟩,
  ⟨some 97,none,.mv false (.t 12)⟩,
  ⟨some 98,none,.call false 107 [(.t 97)]⟩,
  ⟨some 4,none,.mv false (.t 96)⟩,
  ⟨some 5,none,.mv false (.t 98)⟩,
  ⟨some 6,none,.mv false (.c (.int .i64 0))⟩]
def nat_Div_f : LFunc := ⟨99,2,[.tmp 4,.tmp 5,.tmp 6],(.seq (.ops nat_Div_r0) (.seq (.ops nat_Div_r1) (.seq (.block 0 (.seq (.ops nat_Div_r2) (.cond (.t 17) (.seq (.ops nat_Div_r3) .ret) (.seq (.ops nat_Div_r4) (.cond (.t 20) (.seq (.ops nat_Div_r5) .ret) (.seq (.ops nat_Div_r6) (.cond (.t 41) (.seq (.ops nat_Div_r7) .ret) .skip))))))) (.seq (.ops nat_Div_r8) (.seq (.seq (.ops nat_Div_r9) (.cond (.t 53) (.seq (.ops nat_Div_r10) (.seq (.seq (.ops nat_Div_r11) (.block 1 (.loop [7,8,9,10] nat_Div_b0))) (.seq (.ops nat_Div_r16) .ret))) .skip)) (.seq (.ops nat_Div_r17) (.seq (.ops nat_Div_r18) .ret)))))))⟩
def nat_Div_v : VFunc := ⟨nat_Div_f,true,false,false⟩
theorem nat_Div_ok : preFunc Tryz.prog ⟨[],[],[]⟩ Tryz.f108 [[7,8,9,10]] = some nat_Div_f := by kernel_rfl

-- gantry/nat.fromShort
def nat_fromShort_r0 : List LOper := [
  ⟨some 2,none,.mv false (.c (.str []))⟩]
def nat_fromShort_r1 : List LOper := [
  ⟨some 3,none,.alloc [.int .u8 0,.int .u8 0,.int .u8 0,.int .u8 0,.int .u8 0,.int .u8 0,.int .u8 0,.int .u8 0]⟩]
def nat_fromShort_r2 : List LOper := [
  ⟨some 5,none,.mv false (.c (.int .i64 0))⟩]
def nat_fromShort_r3 : List LOper := [
  ⟨some 6,none,.bin .lss (.t 5) (.c (.int .i64 8))⟩]
def nat_fromShort_r4 : List LOper := [
  ⟨some 7,none,.mv false (.t 5)⟩,
  ⟨some 4,none,.mv false (.t 7)⟩]
def nat_fromShort_r5 : List LOper := [
  ⟨some 8,none,.mv false (.t 4)⟩,
  ⟨some 9,none,.mv false (.t 0)⟩,
  ⟨some 10,none,.mv false (.t 4)⟩,
  ⟨some 11,none,.bin .mul (.c (.int .i64 8)) (.t 10)⟩,
  ⟨some 12,none,.bin .sub (.c (.int .i64 56)) (.t 11)⟩,
  ⟨some 13,none,.bin .shr (.t 9) (.t 12)⟩,
  ⟨some 14,none,.conv .u8 (.t 13)⟩,
  ⟨some 15,none,.indexAddrA 8 1 (.t 3) (.t 8)⟩,
  ⟨none,none,.store 1 (.t 15) (.t 14)⟩]
def nat_fromShort_r6 : List LOper := [
  ⟨some 16,none,.bin .add (.t 5) (.c (.int .i64 1))⟩,
  ⟨some 5,none,.mv false (.t 16)⟩]
def nat_fromShort_b0 : LCode := (.seq (.ops nat_fromShort_r3) (.seq (.cond (.t 6) .skip (.exit 0)) (.seq (.block 1 (.seq (.ops nat_fromShort_r4) (.ops nat_fromShort_r5))) (.ops nat_fromShort_r6))))
def nat_fromShort_r7 : List LOper := [
  ⟨some 17,none,.slcA 8 1 (.t 3) none none⟩,
  ⟨some 18,none,.b2s (.t 17)⟩,
  ⟨some 19,none,.call false 92 [(.t 18)]⟩,
  ⟨some 2,none,.mv false (.t 19)⟩]
def nat_fromShort_f : LFunc := ⟨20,1,[.tmp 2],(.seq (.ops nat_fromShort_r0) (.seq (.ops nat_fromShort_r1) (.seq (.seq (.ops nat_fromShort_r2) (.block 0 (.loop [0,3,5] nat_fromShort_b0))) (.seq (.ops nat_fromShort_r7) .ret))))⟩
def nat_fromShort_v : VFunc := ⟨nat_fromShort_f,true,false,false⟩
theorem nat_fromShort_ok : preFunc Tryz.prog ⟨[],[],[]⟩ Tryz.f109 [[0,3,5]] = some nat_fromShort_f := by kernel_rfl

-- gantry/nat.common
def nat_common_r0 : List LOper := [
  ⟨some 4,none,.mv false (.c (.int .u64 0))⟩]
def nat_common_r1 : List LOper := [
  ⟨some 5,none,.mv false (.t 1)⟩,
  ⟨some 6,none,.bin .gtr (.t 5) (.c (.int .u64 0))⟩]
def nat_common_r2 : List LOper := [
  ⟨some 7,none,.mv false (.t 1)⟩,
  ⟨some 8,none,.mv false (.t 0)⟩,
  ⟨some 9,none,.mv false (.t 1)⟩,
  ⟨some 10,none,.bin .rem (.t 8) (.t 9)⟩,
  ⟨some 0,none,.mv false (.t 7)⟩,
  ⟨some 1,none,.mv false (.t 10)⟩]
theorem nat_common_r2_d : drawC [0,0,0,6,3,31] [
  ⟨some 7,none,.mv false (.t 1)⟩,
  ⟨some 8,none,.mv false (.t 0)⟩,
  ⟨some 9,none,.mv false (.t 1)⟩,
  ⟨some 10,none,.bin .rem (.t 8) (.t 9)⟩,
  ⟨some 0,none,.mv false (.t 7)⟩,
  ⟨some 1,none,.mv false (.t 10)⟩] = true := by kernel_rfl
def nat_common_b0 : LCode := (.seq (.seq (.ops nat_common_r1) (.cond (.t 6) .skip (.exit 0))) (.block 1 (.dops [0,0,0,6,3,31] nat_common_r2)))
def nat_common_r3 : List LOper := [
  ⟨some 11,none,.mv false (.t 0)⟩,
  ⟨some 4,none,.mv false (.t 11)⟩]
def nat_common_f : LFunc := ⟨12,2,[.tmp 4],(.seq (.ops nat_common_r0) (.seq (.block 0 (.loop [0,1] nat_common_b0)) (.seq (.ops nat_common_r3) .ret)))⟩
def nat_common_v : VFunc := ⟨nat_common_f,true,false,false⟩
theorem nat_common_ok : preFunc Tryz.prog ⟨[],[],[]⟩ Tryz.f110 [[0,1]] = some nat_common_f := by kernel_rfl

-- gantry/nat.short
def nat_short_r0 : List LOper := [
  ⟨some 2,none,.mv false (.c (.int .u64 0))⟩]
def nat_short_r1 : List LOper := [
  ⟨some 3,none,.mv false (.c (.int .u64 0))⟩]
def nat_short_r2 : List LOper := [
  ⟨some 5,none,.mv false (.t 0)⟩,
  ⟨some 6,none,.lenS (.t 5)⟩,
  ⟨some 7,none,.mv false (.c (.int .i64 0))⟩]
def nat_short_r3 : List LOper := [
  ⟨some 8,none,.bin .lss (.t 7) (.t 6)⟩]
def nat_short_r4 : List LOper := [
  ⟨some 9,none,.mv false (.t 7)⟩,
  ⟨some 4,none,.mv false (.t 9)⟩]
def nat_short_r5 : List LOper := [
  ⟨some 10,none,.mv false (.t 3)⟩,
  ⟨some 11,none,.bin .shl (.t 10) (.c (.int .u64 8))⟩,
  ⟨some 12,none,.mv false (.t 0)⟩,
  ⟨some 13,none,.mv false (.t 4)⟩,
  ⟨some 14,none,.index (.t 12) (.t 13)⟩,
  ⟨some 15,none,.conv .u64 (.t 14)⟩,
  ⟨some 16,none,.bin .or (.t 11) (.t 15)⟩,
  ⟨some 3,none,.mv false (.t 16)⟩]
def nat_short_r6 : List LOper := [
  ⟨some 17,none,.bin .add (.t 7) (.c (.int .i64 1))⟩,
  ⟨some 7,none,.mv false (.t 17)⟩]
def nat_short_b0 : LCode := (.seq (.ops nat_short_r3) (.seq (.cond (.t 8) .skip (.exit 0)) (.seq (.block 1 (.seq (.ops nat_short_r4) (.ops nat_short_r5))) (.ops nat_short_r6))))
def nat_short_r7 : List LOper := [
  ⟨some 18,none,.mv false (.t 3)⟩,
  ⟨some 2,none,.mv false (.t 18)⟩]
def nat_short_f : LFunc := ⟨19,1,[.tmp 2],(.seq (.ops nat_short_r0) (.seq (.ops nat_short_r1) (.seq (.seq (.ops nat_short_r2) (.block 0 (.loop [0,3,6,7] nat_short_b0))) (.seq (.ops nat_short_r7) .ret))))⟩
def nat_short_v : VFunc := ⟨nat_short_f,true,false,false⟩
theorem nat_short_ok : preFunc Tryz.prog ⟨[],[],[]⟩ Tryz.f111 [[0,3,6,7]] = some nat_short_f := by kernel_rfl

-- strings.Compare
def strings_Compare_r0 : List LOper := [
  ⟨some 4,none,.mv false (.c (.int .i64 0))⟩]
def strings_Compare_r1 : List LOper := [
  ⟨some 5,none,.mv false (.t 0)⟩,
  ⟨some 6,none,.mv false (.t 1)⟩,
  ⟨some 7,none,.call false 130 [(.t 5),(.t 6)]⟩,
  ⟨some 4,none,.mv false (.t 7)⟩]
def strings_Compare_f : LFunc := ⟨8,2,[.tmp 4],(.seq (.ops strings_Compare_r0) (.seq (.ops strings_Compare_r1) .ret))⟩
def strings_Compare_v : VFunc := ⟨strings_Compare_f,true,false,false⟩
theorem strings_Compare_ok : preFunc Tryz.prog ⟨[],[],[]⟩ Tryz.f113 [] = some strings_Compare_f := by kernel_rfl

-- internal/stringslite.HasPrefix
def stringslite_HasPrefix_r0 : List LOper := [
  ⟨some 4,none,.mv false (.c (.bool false))⟩]
def stringslite_HasPrefix_r1 : List LOper := [
  ⟨some 5,none,.mv false (.t 0)⟩,
  ⟨some 6,none,.lenS (.t 5)⟩,
  ⟨some 7,none,.mv false (.t 1)⟩,
  ⟨some 8,none,.lenS (.t 7)⟩,
  ⟨some 9,none,.bin .geq (.t 6) (.t 8)⟩,
  ⟨some 10,none,.mv false (.t 9)⟩,
  ⟨some 11,some (10,true),.mv false (.t 0)⟩,
  ⟨some 12,some (10,true),.mv false (.t 1)⟩,
  ⟨some 13,some (10,true),.lenS (.t 12)⟩,
  ⟨some 14,some (10,true),.slc 0 (.t 11) none (some (.t 13)) none⟩,
  ⟨some 15,some (10,true),.mv false (.t 1)⟩,
  ⟨some 16,some (10,true),.bin .eql (.t 14) (.t 15)⟩,
  ⟨some 17,none,.pick (.t 10) (.t 16) (.c (.bool false))⟩,
  ⟨some 4,none,.mv false (.t 17)⟩]
def stringslite_HasPrefix_f : LFunc := ⟨18,2,[.tmp 4],(.seq (.ops stringslite_HasPrefix_r0) (.seq (.ops stringslite_HasPrefix_r1) .ret))⟩
def stringslite_HasPrefix_v : VFunc := ⟨stringslite_HasPrefix_f,true,false,false⟩
theorem stringslite_HasPrefix_ok : preFunc Tryz.prog ⟨[],[],[]⟩ Tryz.f122 [] = some stringslite_HasPrefix_f := by kernel_rfl

-- gantry/nat.Mul
def nat_Mul_r0 : List LOper := [
  ⟨some 4,none,.mv false (.c (.str []))⟩]
def nat_Mul_r1 : List LOper := [
  ⟨some 13,none,.mv false (.t 0)⟩,
  ⟨some 14,none,.call false 92 [(.t 13)]⟩,
  ⟨some 15,none,.mv false (.t 1)⟩,
  ⟨some 16,none,.call false 92 [(.t 15)]⟩,
  ⟨some 0,none,.mv false (.t 14)⟩,
  ⟨some 1,none,.mv false (.t 16)⟩]
def nat_Mul_r2 : List LOper := [
  ⟨some 17,none,.mv false (.t 0)⟩,
  ⟨some 18,none,.lenS (.t 17)⟩,
  ⟨some 19,none,.mv false (.t 1)⟩,
  ⟨some 20,none,.lenS (.t 19)⟩,
  ⟨some 21,none,.bin .add (.t 18) (.t 20)⟩,
  ⟨some 22,none,.bin .leq (.t 21) (.c (.int .i64 8))⟩]
def nat_Mul_r3 : List LOper := [
  ⟨some 23,none,.mv false (.t 0)⟩,
  ⟨some 24,none,.call false 111 [(.t 23)]⟩,
  ⟨some 25,none,.mv false (.t 1)⟩,
  ⟨some 26,none,.call false 111 [(.t 25)]⟩,
  ⟨some 27,none,.bin .mul (.t 24) (.t 26)⟩,
  ⟨some 28,none,.call false 109 [(.t 27)]⟩,
  ⟨some 4,none,.mv false (.t 28)⟩]
def nat_Mul_r4 : List LOper := [
  ⟨some 29,none,.mv false (.t 0)⟩,
  ⟨some 30,none,.call false 78 [(.t 29)]⟩,
  ⟨some 31,none,.mv false (.t 1)⟩,
  ⟨some 32,none,.call false 78 [(.t 31)]⟩,
  ⟨some 5,none,.mv false (.t 30)⟩,
  ⟨some 6,none,.mv false (.t 32)⟩]
def nat_Mul_r5 : List LOper := [
  ⟨some 33,none,.mv false (.t 5)⟩,
  ⟨some 34,none,.lenL (.t 33)⟩,
  ⟨some 35,none,.mv false (.t 6)⟩,
  ⟨some 36,none,.lenL (.t 35)⟩,
  ⟨some 37,none,.bin .add (.t 34) (.t 36)⟩,
  ⟨some 38,none,.make true 1 4 [.int .u32 0] (.t 37) (.t 37)⟩,
  ⟨some 7,none,.mv false (.t 38)⟩]
def nat_Mul_r6 : List LOper := [
  ⟨some 39,none,.mv false (.t 5)⟩,
  ⟨some 40,none,.lenL (.t 39)⟩,
  ⟨some 41,none,.mv false (.c (.int .i64 0))⟩]
def nat_Mul_r7 : List LOper := [
  ⟨some 42,none,.bin .lss (.t 41) (.t 40)⟩]
def nat_Mul_r8 : List LOper := [
  ⟨some 43,none,.mv false (.t 41)⟩,
  ⟨some 44,none,.indexAddr 1 (.t 39) (.t 41)⟩,
  ⟨some 45,none,.load false false 1 (.t 44)⟩,
  ⟨some 8,none,.mv false (.t 43)⟩,
  ⟨some 9,none,.mv false (.t 45)⟩]
def nat_Mul_r9 : List LOper := [
  ⟨some 10,none,.mv false (.c (.int .u64 0))⟩]
def nat_Mul_r10 : List LOper := [
  ⟨some 46,none,.mv false (.t 6)⟩,
  ⟨some 47,none,.lenL (.t 46)⟩,
  ⟨some 48,none,.mv false (.c (.int .i64 0))⟩]
def nat_Mul_r11 : List LOper := [
  ⟨some 49,none,.bin .lss (.t 48) (.t 47)⟩]
def nat_Mul_r12 : List LOper := [
  ⟨some 50,none,.mv false (.t 48)⟩,
  ⟨some 51,none,.indexAddr 1 (.t 46) (.t 48)⟩,
  ⟨some 52,none,.load false false 1 (.t 51)⟩,
  ⟨some 11,none,.mv false (.t 50)⟩,
  ⟨some 12,none,.mv false (.t 52)⟩]
def nat_Mul_r13 : List LOper := [
  ⟨some 53,none,.mv false (.t 10)⟩,
  ⟨some 54,none,.mv false (.t 9)⟩,
  ⟨some 55,none,.conv .u64 (.t 54)⟩,
  ⟨some 56,none,.mv false (.t 12)⟩,
  ⟨some 57,none,.conv .u64 (.t 56)⟩,
  ⟨some 58,none,.bin .mul (.t 55) (.t 57)⟩,
  ⟨some 59,none,.mv false (.t 7)⟩,
  ⟨some 60,none,.mv false (.t 8)⟩,
  ⟨some 61,none,.mv false (.t 11)⟩,
  ⟨some 62,none,.bin .add (.t 60) (.t 61)⟩,
  ⟨some 63,none,.indexAddr 1 (.t 59) (.t 62)⟩,
  ⟨some 64,none,.load false false 1 (.t 63)⟩,
  ⟨some 65,none,.conv .u64 (.t 64)⟩,
  ⟨some 66,none,.bin .add (.t 58) (.t 65)⟩,
  ⟨some 67,none,.bin .add (.t 53) (.t 66)⟩,
  ⟨some 10,none,.mv false (.t 67)⟩]
def nat_Mul_r14 : List LOper := [
  ⟨some 68,none,.mv false (.t 7)⟩,
  ⟨some 69,none,.mv false (.t 8)⟩,
  ⟨some 70,none,.mv false (.t 11)⟩,
  ⟨some 71,none,.bin .add (.t 69) (.t 70)⟩,
  ⟨some 72,none,.mv false (.t 10)⟩,
  ⟨some 73,none,.conv .u32 (.t 72)⟩,
  ⟨some 74,none,.indexAddr 1 (.t 68) (.t 71)⟩,
  ⟨none,none,.store 1 (.t 74) (.t 73)⟩]
def nat_Mul_r15 : List LOper := [
  ⟨some 75,none,.mv false (.t 10)⟩,
  ⟨some 76,none,.bin .shr (.t 75) (.c (.int .u64 32))⟩,
  ⟨some 10,none,.mv false (.t 76)⟩]
def nat_Mul_r16 : List LOper := [
  ⟨some 77,none,.bin .add (.t 48) (.c (.int .i64 1))⟩,
  ⟨some 48,none,.mv false (.t 77)⟩]
def nat_Mul_b1 : LCode := (.seq (.ops nat_Mul_r11) (.seq (.cond (.t 49) .skip (.exit 2)) (.seq (.block 3 (.seq (.ops nat_Mul_r12) (.seq (.ops nat_Mul_r13) (.seq (.ops nat_Mul_r14) (.ops nat_Mul_r15))))) (.ops nat_Mul_r16))))
def nat_Mul_r17 : List LOper := [
  ⟨some 78,none,.mv false (.t 7)⟩,
  ⟨some 79,none,.mv false (.t 8)⟩,
  ⟨some 80,none,.mv false (.t 6)⟩,
  ⟨some 81,none,.lenL (.t 80)⟩,
  ⟨some 82,none,.bin .add (.t 79) (.t 81)⟩,
  ⟨some 83,none,.mv false (.t 10)⟩,
  ⟨some 84,none,.conv .u32 (.t 83)⟩,
  ⟨some 85,none,.indexAddr 1 (.t 78) (.t 82)⟩,
  ⟨none,none,.store 1 (.t 85) (.t 84)⟩]
def nat_Mul_r18 : List LOper := [
  ⟨some 86,none,.bin .add (.t 41) (.c (.int .i64 1))⟩,
  ⟨some 41,none,.mv false (.t 86)⟩]
def nat_Mul_b0 : LCode := (.seq (.ops nat_Mul_r7) (.seq (.cond (.t 42) .skip (.exit 0)) (.seq (.block 1 (.seq (.ops nat_Mul_r8) (.seq (.ops nat_Mul_r9) (.seq (.seq (.ops nat_Mul_r10) (.block 2 (.loop [6,7,8,9,10,39,40,41,46,47,48] nat_Mul_b1))) (.ops nat_Mul_r17))))) (.ops nat_Mul_r18))))
def nat_Mul_r19 : List LOper := [
  ⟨some 87,none,.mv false (.t 7)⟩,
  ⟨some 88,none,.call false 107 [(.t 87)]⟩,
  ⟨some 4,none,.mv false (.t 88)⟩]
def nat_Mul_f : LFunc := ⟨89,2,[.tmp 4],(.seq (.ops nat_Mul_r0) (.seq (.ops nat_Mul_r1) (.seq (.seq (.ops nat_Mul_r2) (.cond (.t 22) (.seq (.ops nat_Mul_r3) .ret) .skip)) (.seq (.ops nat_Mul_r4) (.seq (.ops nat_Mul_r5) (.seq (.seq (.ops nat_Mul_r6) (.block 0 (.loop [6,7,39,40,41] nat_Mul_b0))) (.seq (.ops nat_Mul_r19) .ret)))))))⟩
def nat_Mul_v : VFunc := ⟨nat_Mul_f,true,false,false⟩
theorem nat_Mul_ok : preFunc Tryz.prog ⟨[],[],[]⟩ Tryz.f129 [[6,7,39,40,41],[6,7,8,9,10,39,40,41,46,47,48]] = some nat_Mul_f := by kernel_rfl

-- internal/bytealg.CompareString
def bytealg_CompareString_f : LFunc := ext2 .cmp
def bytealg_CompareString_v : VFunc := ⟨bytealg_CompareString_f,true,false,false⟩

-- strings.Join
def strings_Join_f : LFunc := ext2 .join
def strings_Join_v : VFunc := ⟨strings_Join_f,true,false,false⟩

-- internal/stringslite.Index
def stringslite_Index_f : LFunc := ext2 .index1
def stringslite_Index_v : VFunc := ⟨stringslite_Index_f,true,false,false⟩

abbrev n_gantkeep4_ParseBack : Nat := 4
abbrev n_parse_Read : Nat := 5
abbrev n_gantkeep4_parsed : Nat := 6
abbrev n_parse_Print : Nat := 7
abbrev n_parse_Same : Nat := 8
abbrev n_gantkeep4_Job : Nat := 9
abbrev n_gantkeep4_Small : Nat := 10
abbrev n_word_Read : Nat := 11
abbrev n_parse_reader_take : Nat := 12
abbrev n_parse_reader_name : Nat := 13
abbrev n_parse_reader_block : Nat := 14
abbrev n_parse_Check : Nat := 15
abbrev n_parse_printer_put : Nat := 16
abbrev n_parse_printer_block : Nat := 17
abbrev n_parse_sameAll : Nat := 19
abbrev n_gantkeep4_stmts : Nat := 20
abbrev n_gantmake_Stream_Next : Nat := 21
abbrev n_gantmake_Of : Nat := 22
abbrev n_word_skip : Nat := 23
abbrev n_word_one : Nat := 24
abbrev n_parse_keyword : Nat := 25
abbrev n_parse_reader_stmt : Nat := 26
abbrev n_parse_Name : Nat := 27
abbrev n_parse_stmts : Nat := 28
abbrev n_parse_printer_stmt : Nat := 29
abbrev n_slices_EqualFunc_antryparseStmt : Nat := 33
abbrev n_parse_same : Nat := 34
abbrev n_gantkeep4_stmt : Nat := 35
abbrev n_gantmake_Below : Nat := 36
abbrev n_gantmake_digits : Nat := 37
abbrev n_word_blank : Nat := 38
abbrev n_word_letter : Nat := 39
abbrev n_word_run : Nat := 40
abbrev n_word_digit : Nat := 41
abbrev n_word_sign : Nat := 42
abbrev n_word_IsName : Nat := 43
abbrev n_word_IsNumber : Nat := 44
abbrev n_slices_Contains_stringstring : Nat := 45
abbrev n_parse_begins : Nat := 46
abbrev n_parse_reader_blocks : Nat := 47
abbrev n_parse_reader_count : Nat := 48
abbrev n_parse_reader_plain : Nat := 49
abbrev n_parse_stmt : Nat := 50
abbrev n_rat_Text : Nat := 51
abbrev n_parse_number : Nat := 52
abbrev n_slices_EqualFunc_antryparseStmtx : Nat := 55
abbrev n_slices_Reverse_bytebyte : Nat := 56
abbrev n_strings_Cut : Nat := 57
abbrev n_word_digits : Nat := 58
abbrev n_slices_Index_stringstring : Nat := 59
abbrev n_parse_keywordWithin : Nat := 60
abbrev n_strconv_ParseInt : Nat := 61
abbrev n_parse_reader_within : Nat := 62
abbrev n_parse_plain : Nat := 63
abbrev n_parse_shape : Nat := 64
abbrev n_rat_fit : Nat := 65
abbrev n_nat_Text : Nat := 66
abbrev n_strconv_FormatInt : Nat := 67
abbrev n_stringslite_Cut : Nat := 70
abbrev n_strconv_ParseIntx : Nat := 71
abbrev n_rat_Read : Nat := 73
abbrev n_rat_Good : Nat := 74
abbrev n_rat_Sign : Nat := 75
abbrev n_rat_Small : Nat := 76
abbrev n_rat_zero : Nat := 77
abbrev n_nat_words : Nat := 78
abbrev n_strconv_FormatIntx : Nat := 79
abbrev n_strconv_ParseUint : Nat := 81
abbrev n_strings_CutPrefix : Nat := 86
abbrev n_nat_Read : Nat := 87
abbrev n_rat_made : Nat := 88
abbrev n_nat_Gcd : Nat := 89
abbrev n_nat_Cmp : Nat := 90
abbrev n_nat_Of : Nat := 91
abbrev n_nat_trim : Nat := 92
abbrev n_strconv_small : Nat := 93
abbrev n_stringslite_CutPrefix : Nat := 106
abbrev n_nat_text : Nat := 107
abbrev n_nat_Div : Nat := 108
abbrev n_nat_fromShort : Nat := 109
abbrev n_nat_common : Nat := 110
abbrev n_nat_short : Nat := 111
abbrev n_strings_Compare : Nat := 113
abbrev n_stringslite_HasPrefix : Nat := 122
abbrev n_nat_Mul : Nat := 129
abbrev n_bytealg_CompareString : Nat := 130
abbrev n_strings_Join : Nat := 18
abbrev n_stringslite_Index : Nat := 80
def vp : VProg
  | 4 => some gantkeep4_ParseBack_v
  | 5 => some parse_Read_v
  | 6 => some gantkeep4_parsed_v
  | 7 => some parse_Print_v
  | 8 => some parse_Same_v
  | 9 => some gantkeep4_Job_v
  | 10 => some gantkeep4_Small_v
  | 11 => some word_Read_v
  | 12 => some parse_reader_take_v
  | 13 => some parse_reader_name_v
  | 14 => some parse_reader_block_v
  | 15 => some parse_Check_v
  | 16 => some parse_printer_put_v
  | 17 => some parse_printer_block_v
  | 19 => some parse_sameAll_v
  | 20 => some gantkeep4_stmts_v
  | 21 => some gantmake_Stream_Next_v
  | 22 => some gantmake_Of_v
  | 23 => some word_skip_v
  | 24 => some word_one_v
  | 25 => some parse_keyword_v
  | 26 => some parse_reader_stmt_v
  | 27 => some parse_Name_v
  | 28 => some parse_stmts_v
  | 29 => some parse_printer_stmt_v
  | 33 => some slices_EqualFunc_antryparseStmt_v
  | 34 => some parse_same_v
  | 35 => some gantkeep4_stmt_v
  | 36 => some gantmake_Below_v
  | 37 => some gantmake_digits_v
  | 38 => some word_blank_v
  | 39 => some word_letter_v
  | 40 => some word_run_v
  | 41 => some word_digit_v
  | 42 => some word_sign_v
  | 43 => some word_IsName_v
  | 44 => some word_IsNumber_v
  | 45 => some slices_Contains_stringstring_v
  | 46 => some parse_begins_v
  | 47 => some parse_reader_blocks_v
  | 48 => some parse_reader_count_v
  | 49 => some parse_reader_plain_v
  | 50 => some parse_stmt_v
  | 51 => some rat_Text_v
  | 52 => some parse_number_v
  | 55 => some slices_EqualFunc_antryparseStmtx_v
  | 56 => some slices_Reverse_bytebyte_v
  | 57 => some strings_Cut_v
  | 58 => some word_digits_v
  | 59 => some slices_Index_stringstring_v
  | 60 => some parse_keywordWithin_v
  | 61 => some strconv_ParseInt_v
  | 62 => some parse_reader_within_v
  | 63 => some parse_plain_v
  | 64 => some parse_shape_v
  | 65 => some rat_fit_v
  | 66 => some nat_Text_v
  | 67 => some strconv_FormatInt_v
  | 70 => some stringslite_Cut_v
  | 71 => some strconv_ParseIntx_v
  | 73 => some rat_Read_v
  | 74 => some rat_Good_v
  | 75 => some rat_Sign_v
  | 76 => some rat_Small_v
  | 77 => some rat_zero_v
  | 78 => some nat_words_v
  | 79 => some strconv_FormatIntx_v
  | 81 => some strconv_ParseUint_v
  | 86 => some strings_CutPrefix_v
  | 87 => some nat_Read_v
  | 88 => some rat_made_v
  | 89 => some nat_Gcd_v
  | 90 => some nat_Cmp_v
  | 91 => some nat_Of_v
  | 92 => some nat_trim_v
  | 93 => some strconv_small_v
  | 106 => some stringslite_CutPrefix_v
  | 107 => some nat_text_v
  | 108 => some nat_Div_v
  | 109 => some nat_fromShort_v
  | 110 => some nat_common_v
  | 111 => some nat_short_v
  | 113 => some strings_Compare_v
  | 122 => some stringslite_HasPrefix_v
  | 129 => some nat_Mul_v
  | 130 => some bytealg_CompareString_v
  | 18 => some strings_Join_v
  | 80 => some stringslite_Index_v
  | _ => none
def lp : LProg := fun f => (vp f).map (·.fn)
theorem lp_ok : PSound false Tryz.prog lp := by
  intro f lf h
  unfold lp at h
  unfold vp at h
  split at h
  · cases h; exact .inl ⟨_,_,_,Tryz.func4,gantkeep4_ParseBack_ok⟩
  · cases h; exact .inl ⟨_,_,_,Tryz.func5,parse_Read_ok⟩
  · cases h; exact .inl ⟨_,_,_,Tryz.func6,gantkeep4_parsed_ok⟩
  · cases h; exact .inl ⟨_,_,_,Tryz.func7,parse_Print_ok⟩
  · cases h; exact .inl ⟨_,_,_,Tryz.func8,parse_Same_ok⟩
  · cases h; exact .inl ⟨_,_,_,Tryz.func9,gantkeep4_Job_ok⟩
  · cases h; exact .inl ⟨_,_,_,Tryz.func10,gantkeep4_Small_ok⟩
  · cases h; exact .inl ⟨_,_,_,Tryz.func11,word_Read_ok⟩
  · cases h; exact .inl ⟨_,_,_,Tryz.func12,parse_reader_take_ok⟩
  · cases h; exact .inl ⟨_,_,_,Tryz.func13,parse_reader_name_ok⟩
  · cases h; exact .inl ⟨_,_,_,Tryz.func14,parse_reader_block_ok⟩
  · cases h; exact .inl ⟨_,_,_,Tryz.func15,parse_Check_ok⟩
  · cases h; exact .inl ⟨_,_,_,Tryz.func16,parse_printer_put_ok⟩
  · cases h; exact .inl ⟨_,_,_,Tryz.func17,parse_printer_block_ok⟩
  · cases h; exact .inl ⟨_,_,_,Tryz.func19,parse_sameAll_ok⟩
  · cases h; exact .inl ⟨_,_,_,Tryz.func20,gantkeep4_stmts_ok⟩
  · cases h; exact .inl ⟨_,_,_,Tryz.func21,gantmake_Stream_Next_ok⟩
  · cases h; exact .inl ⟨_,_,_,Tryz.func22,gantmake_Of_ok⟩
  · cases h; exact .inl ⟨_,_,_,Tryz.func23,word_skip_ok⟩
  · cases h; exact .inl ⟨_,_,_,Tryz.func24,word_one_ok⟩
  · cases h; exact .inl ⟨_,_,_,Tryz.func25,parse_keyword_ok⟩
  · cases h; exact .inl ⟨_,_,_,Tryz.func26,parse_reader_stmt_ok⟩
  · cases h; exact .inl ⟨_,_,_,Tryz.func27,parse_Name_ok⟩
  · cases h; exact .inl ⟨_,_,_,Tryz.func28,parse_stmts_ok⟩
  · cases h; exact .inl ⟨_,_,_,Tryz.func29,parse_printer_stmt_ok⟩
  · cases h; exact .inl ⟨_,_,_,Tryz.func33,slices_EqualFunc_antryparseStmt_ok⟩
  · cases h; exact .inl ⟨_,_,_,Tryz.func34,parse_same_ok⟩
  · cases h; exact .inl ⟨_,_,_,Tryz.func35,gantkeep4_stmt_ok⟩
  · cases h; exact .inl ⟨_,_,_,Tryz.func36,gantmake_Below_ok⟩
  · cases h; exact .inl ⟨_,_,_,Tryz.func37,gantmake_digits_ok⟩
  · cases h; exact .inl ⟨_,_,_,Tryz.func38,word_blank_ok⟩
  · cases h; exact .inl ⟨_,_,_,Tryz.func39,word_letter_ok⟩
  · cases h; exact .inl ⟨_,_,_,Tryz.func40,word_run_ok⟩
  · cases h; exact .inl ⟨_,_,_,Tryz.func41,word_digit_ok⟩
  · cases h; exact .inl ⟨_,_,_,Tryz.func42,word_sign_ok⟩
  · cases h; exact .inl ⟨_,_,_,Tryz.func43,word_IsName_ok⟩
  · cases h; exact .inl ⟨_,_,_,Tryz.func44,word_IsNumber_ok⟩
  · cases h; exact .inl ⟨_,_,_,Tryz.func45,slices_Contains_stringstring_ok⟩
  · cases h; exact .inl ⟨_,_,_,Tryz.func46,parse_begins_ok⟩
  · cases h; exact .inl ⟨_,_,_,Tryz.func47,parse_reader_blocks_ok⟩
  · cases h; exact .inl ⟨_,_,_,Tryz.func48,parse_reader_count_ok⟩
  · cases h; exact .inl ⟨_,_,_,Tryz.func49,parse_reader_plain_ok⟩
  · cases h; exact .inl ⟨_,_,_,Tryz.func50,parse_stmt_ok⟩
  · cases h; exact .inl ⟨_,_,_,Tryz.func51,rat_Text_ok⟩
  · cases h; exact .inl ⟨_,_,_,Tryz.func52,parse_number_ok⟩
  · cases h; exact .inl ⟨_,_,_,Tryz.func55,slices_EqualFunc_antryparseStmtx_ok⟩
  · cases h; exact .inl ⟨_,_,_,Tryz.func56,slices_Reverse_bytebyte_ok⟩
  · cases h; exact .inl ⟨_,_,_,Tryz.func57,strings_Cut_ok⟩
  · cases h; exact .inl ⟨_,_,_,Tryz.func58,word_digits_ok⟩
  · cases h; exact .inl ⟨_,_,_,Tryz.func59,slices_Index_stringstring_ok⟩
  · cases h; exact .inl ⟨_,_,_,Tryz.func60,parse_keywordWithin_ok⟩
  · cases h; exact .inl ⟨_,_,_,Tryz.func61,strconv_ParseInt_ok⟩
  · cases h; exact .inl ⟨_,_,_,Tryz.func62,parse_reader_within_ok⟩
  · cases h; exact .inl ⟨_,_,_,Tryz.func63,parse_plain_ok⟩
  · cases h; exact .inl ⟨_,_,_,Tryz.func64,parse_shape_ok⟩
  · cases h; exact .inl ⟨_,_,_,Tryz.func65,rat_fit_ok⟩
  · cases h; exact .inl ⟨_,_,_,Tryz.func66,nat_Text_ok⟩
  · cases h; exact .inl ⟨_,_,_,Tryz.func67,strconv_FormatInt_ok⟩
  · cases h; exact .inl ⟨_,_,_,Tryz.func70,stringslite_Cut_ok⟩
  · cases h; exact .inl ⟨_,_,_,Tryz.func71,strconv_ParseIntx_ok⟩
  · cases h; exact .inl ⟨_,_,_,Tryz.func73,rat_Read_ok⟩
  · cases h; exact .inl ⟨_,_,_,Tryz.func74,rat_Good_ok⟩
  · cases h; exact .inl ⟨_,_,_,Tryz.func75,rat_Sign_ok⟩
  · cases h; exact .inl ⟨_,_,_,Tryz.func76,rat_Small_ok⟩
  · cases h; exact .inl ⟨_,_,_,Tryz.func77,rat_zero_ok⟩
  · cases h; exact .inl ⟨_,_,_,Tryz.func78,nat_words_ok⟩
  · cases h; exact .inl ⟨_,_,_,Tryz.func79,strconv_FormatIntx_ok⟩
  · cases h; exact .inl ⟨_,_,_,Tryz.func81,strconv_ParseUint_ok⟩
  · cases h; exact .inl ⟨_,_,_,Tryz.func86,strings_CutPrefix_ok⟩
  · cases h; exact .inl ⟨_,_,_,Tryz.func87,nat_Read_ok⟩
  · cases h; exact .inl ⟨_,_,_,Tryz.func88,rat_made_ok⟩
  · cases h; exact .inl ⟨_,_,_,Tryz.func89,nat_Gcd_ok⟩
  · cases h; exact .inl ⟨_,_,_,Tryz.func90,nat_Cmp_ok⟩
  · cases h; exact .inl ⟨_,_,_,Tryz.func91,nat_Of_ok⟩
  · cases h; exact .inl ⟨_,_,_,Tryz.func92,nat_trim_ok⟩
  · cases h; exact .inl ⟨_,_,_,Tryz.func93,strconv_small_ok⟩
  · cases h; exact .inl ⟨_,_,_,Tryz.func106,stringslite_CutPrefix_ok⟩
  · cases h; exact .inl ⟨_,_,_,Tryz.func107,nat_text_ok⟩
  · cases h; exact .inl ⟨_,_,_,Tryz.func108,nat_Div_ok⟩
  · cases h; exact .inl ⟨_,_,_,Tryz.func109,nat_fromShort_ok⟩
  · cases h; exact .inl ⟨_,_,_,Tryz.func110,nat_common_ok⟩
  · cases h; exact .inl ⟨_,_,_,Tryz.func111,nat_short_ok⟩
  · cases h; exact .inl ⟨_,_,_,Tryz.func113,strings_Compare_ok⟩
  · cases h; exact .inl ⟨_,_,_,Tryz.func122,stringslite_HasPrefix_ok⟩
  · cases h; exact .inl ⟨_,_,_,Tryz.func129,nat_Mul_ok⟩
  · cases h; exact .inr CompareString_ext
  · cases h; exact .inr strings_Join_ext
  · cases h; exact .inr stringslite_Index_ext
  · cases h
theorem vp_link (f : FuncId) : Link (lp f) (vp f) := by
  unfold lp
  exact .of_eq rfl
theorem law {f : FuncId} {args : List VV} {h1 : VHeap} (hE : callVL vp 0 f args [] = some (.bool true,h1)) {w : World} {ρ : List Lg.Place} {lh : Heap} (R : Rep (m := false) ⟨w⟩ ρ lh w) {vs : Array Value} {largs : List LV} (hv : VRs ρ vs.toList largs) (hr : RVs (fun _ => none) [] lh args largs) :
    Calls Tryz.prog f vs w fun e w' => e = .returned (.bool true) ∧ Below w.heap.size w w' := law_true lp_ok vp_link hE R hv hr
end Vg.G3
