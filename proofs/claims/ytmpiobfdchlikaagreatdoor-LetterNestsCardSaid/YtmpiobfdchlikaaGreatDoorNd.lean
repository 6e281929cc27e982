/- LetterNests answers true for all numbers and flags, at any start: texts of this proof, merged. -/
import Derived.Test.YtmpiobfdchlikaaGreatDoorNc
import Derived.Test.YtmpiobfdchlikaaGreatDoorProg
import Derived.KernelRfl
import Derived.RecoverIn
set_option linter.unusedVariables false
set_option linter.unusedSimpArgs false
set_option maxHeartbeats 4000000
section
set_option maxRecDepth 100000
namespace Go.Proofs.YtmpiobfdchlikaaGreatDoor
open Nun
def zct:CCode:=(.seq (.seq (.reg [2,7,8,9,10,11,12,40] [] [⟨some 30,none,.mv (.t 12)⟩,⟨some 31,none,.mv (.t 8)⟩,⟨some 32,none,.bin .lss (.t 30) (.t 31)⟩,⟨some 33,none,.mv (.t 32)⟩,⟨some 34,some ⟨33,true⟩,.mv (.t 12)⟩,⟨some 35,some ⟨33,true⟩,.bin .eql (.t 34) (.c (.flat (.int .i64 0)))⟩,⟨some 36,some ⟨33,true⟩,.mv (.t 35)⟩,⟨some 37,some ⟨36,false⟩,.mv (.t 10)⟩,⟨some 38,some ⟨36,false⟩,.bin .eql (.t 37) (.c (.flat (.int .i64 0)))⟩,⟨some 39,some ⟨33,true⟩,.pick (.t 36) (.c (.flat (.bool true))) (.t 38)⟩,⟨some 40,none,.pick (.t 33) (.t 39) (.c (.flat (.bool false)))⟩]) (.cond (.t 40) .skip (.exit 2 [2,7,8,10,11]))) (.seq (.block 3 (.reg [2,7,8,9,10,11,12] [] [⟨some 43,none,.mvA 11⟩,⟨some 44,none,.mv (.t 9)⟩,⟨some 45,none,.mksl false 1 1 [.flat (.string ⟨#[]⟩)] [⟨0,⟨1,.t 44⟩⟩]⟩,⟨some 46,none,.append false 1 (.t 43) (.t 45)⟩,⟨some 11,none,.asg (.t 46)⟩])) (.reg [2,7,8,9,10,11,12] [] [⟨some 41,none,.mv (.t 12)⟩,⟨some 42,none,.bin .add (.t 41) (.c (.flat (.int .i64 1)))⟩,⟨some 12,none,.asg (.t 42)⟩])))
def zbz:CCode:=zct
theorem za9 {cf:Nun.Callee} {m:Nat} {st:Nun.St}:evC cf m zbz st=evC cf m zct st:=rfl
attribute [go_sem] zct
def zcu:CCode:=(.seq (.seq (.reg [2,7,8,9,10,26] [] [⟨some 24,none,.mv (.t 10)⟩,⟨some 25,none,.mv (.t 7)⟩,⟨some 26,none,.bin .lss (.t 24) (.t 25)⟩]) (.cond (.t 26) .skip (.exit 0 [2,9]))) (.seq (.block 1 (.seq (.reg [2,7,8,9,10,11] [] [⟨some 29,none,.mksl false 0 1 [] []⟩,⟨some 11,none,.asg (.t 29)⟩]) (.seq (.seq (.reg [2,7,8,9,10,11,12] [] [⟨some 12,none,.asg (.c (.flat (.int .i64 0)))⟩]) (.block 2 (.loop [2,7,8,9,10,11,12] zbz))) (.reg [2,7,8,9,10] [] [⟨some 47,none,.mv (.t 10)⟩,⟨some 48,none,.bin .add (.c (.flat (.int .i64 97))) (.t 47)⟩,⟨some 49,none,.conv .u8 (.t 48)⟩,⟨some 50,none,.mksl true 1 1 [.flat (.int .u8 0)] [⟨0,⟨1,.t 49⟩⟩]⟩,⟨some 51,none,.b2s (.t 50)⟩,⟨some 52,none,.bin .add (.c (.flat (.string ⟨#[61,95]⟩))) (.t 51)⟩,⟨some 53,none,.mv (.t 11)⟩,⟨some 54,none,.call 17 [.t 52,.t 53]⟩,⟨some 9,none,.asg (.t 54)⟩])))) (.reg [2,7,8,9,10] [] [⟨some 27,none,.mv (.t 10)⟩,⟨some 28,none,.bin .add (.t 27) (.c (.flat (.int .i64 1)))⟩,⟨some 10,none,.asg (.t 28)⟩])))
def zb0:CCode:=zcu
theorem zd5 {cf:Nun.Callee} {m:Nat} {st:Nun.St}:evC cf m zb0 st=evC cf m zcu st:=rfl
attribute [go_sem] zcu
def zic:CFun:=⟨80,[.inl 6],(.seq (.reg [0,1,2] [] [⟨some 6,none,.asg (.c (.flat (.bool false)))⟩]) (.seq (.reg [2,7,8] [] [⟨some 17,none,.mv (.t 0)⟩,⟨some 18,none,.conv .i64 (.t 17)⟩,⟨some 19,none,.bin .rem (.t 18) (.c (.flat (.int .i64 7)))⟩,⟨some 20,none,.mv (.t 1)⟩,⟨some 21,none,.conv .i64 (.t 20)⟩,⟨some 22,none,.bin .rem (.t 21) (.c (.flat (.int .i64 70)))⟩,⟨some 23,none,.bin .add (.c (.flat (.int .i64 1))) (.t 22)⟩,⟨some 7,none,.asg (.t 19)⟩,⟨some 8,none,.asg (.t 23)⟩]) (.seq (.reg [2,7,8,9] [] [⟨some 9,none,.asg (.c (.flat (.string ⟨#[13,10,120]⟩)))⟩]) (.seq (.seq (.reg [2,7,8,9,10] [] [⟨some 10,none,.asg (.c (.flat (.int .i64 0)))⟩]) (.block 0 (.loop [2,7,8,9,10] zb0))) (.seq (.seq (.reg [9,55] [] [⟨some 55,none,.mv (.t 2)⟩]) (.cond (.t 55) (.reg [9] [] [⟨some 56,none,.mv (.t 9)⟩,⟨some 57,none,.bin .add (.c (.flat (.string ⟨#[88,58,32,121,13,10]⟩))) (.t 56)⟩,⟨some 9,none,.asg (.t 57)⟩]) .skip)) (.seq (.reg [9,13,14] [] [⟨some 59,none,.mv (.t 9)⟩,⟨some 60,none,.call 18 [.t 59]⟩,⟨some 58,none,.mv (.t 60)⟩,⟨some 61,none,.ext (.t 58) 0⟩,⟨some 62,none,.ext (.t 58) 1⟩,⟨some 13,none,.alloc 48 [.flat (.slice .none 0 0),.flat (.string ⟨#[]⟩),.flat (.string ⟨#[]⟩),.flat (.slice .none 0 0)]⟩,⟨none,none,.store 4 (.t 13) (.t 61)⟩,⟨some 14,none,.asg (.t 62)⟩]) (.seq (.reg [13,14,15,16] [] [⟨some 64,none,.mv (.t 9)⟩,⟨some 65,none,.call 16 [.t 64]⟩,⟨some 63,none,.mv (.t 65)⟩,⟨some 66,none,.ext (.t 63) 0⟩,⟨some 67,none,.ext (.t 63) 1⟩,⟨some 15,none,.alloc 36 [.flat (.slice .none 0 0),.flat (.string ⟨#[]⟩),.flat (.string ⟨#[]⟩),.flat (.slice .none 0 0)]⟩,⟨none,none,.store 4 (.t 15) (.t 66)⟩,⟨some 16,none,.asg (.t 67)⟩]) (.seq (.reg [6] [⟨some 68,none,.mv (.t 14)⟩,⟨some 69,none,.mv (.t 16)⟩,⟨some 70,none,.bin .eql (.t 68) (.t 69)⟩,⟨some 71,none,.mv (.t 70)⟩,⟨some 72,some ⟨71,true⟩,.load true 4 (.t 13)⟩,⟨some 73,some ⟨71,true⟩,.call 20 [.t 72,.c (.flat (.int .i64 8))]⟩,⟨some 74,some ⟨71,true⟩,.load true 4 (.t 15)⟩] [⟨some 75,some ⟨71,true⟩,.call 19 [.t 73,.t 74]⟩,⟨some 76,none,.pick (.t 71) (.t 75) (.c (.flat (.bool false)))⟩,⟨some 77,none,.mv (.t 76)⟩,⟨some 78,some ⟨77,true⟩,.call 21 []⟩,⟨some 79,none,.pick (.t 77) (.t 78) (.c (.flat (.bool false)))⟩,⟨some 6,none,.asg (.t 79)⟩]) (.ret [6]))))))))),[]⟩
def ze2:CCode:=(.seq (.seq (.reg [1,2,4,5,6,17] [] [⟨some 13,none,.mv (.t 6)⟩,⟨some 14,none,.fadr 0 (.t 2)⟩,⟨some 15,none,.load false 1 (.t 14)⟩,⟨some 16,none,.len (.t 15)⟩,⟨some 17,none,.bin .lss (.t 13) (.t 16)⟩]) (.cond (.t 17) .skip (.exit 0 [1,2,4,5]))) (.seq (.block 1 (.reg [1,2,4,5,6] [⟨some 20,none,.fadr 0 (.t 5)⟩,⟨some 21,none,.loadA (.t 20)⟩,⟨some 22,none,.fadr 0 (.t 2)⟩,⟨some 23,none,.load false 1 (.t 22)⟩,⟨some 24,none,.mv (.t 6)⟩,⟨some 25,none,.iadr 2 (.t 23) (.t 24)⟩,⟨some 26,none,.fadr 0 (.t 25)⟩,⟨some 27,none,.load false 1 (.t 26)⟩,⟨some 28,none,.fadr 0 (.t 2)⟩,⟨some 29,none,.load false 1 (.t 28)⟩,⟨some 30,none,.mv (.t 6)⟩,⟨some 31,none,.iadr 2 (.t 29) (.t 30)⟩,⟨some 32,none,.fadr 1 (.t 31)⟩,⟨some 33,none,.load false 1 (.t 32)⟩,⟨some 34,none,.build [.flat (.string ⟨#[]⟩),.flat (.string ⟨#[]⟩)] [⟨0,⟨1,.t 27⟩⟩,⟨1,⟨1,.t 33⟩⟩]⟩,⟨some 35,none,.mksl false 1 2 [.flat (.string ⟨#[]⟩),.flat (.string ⟨#[]⟩)] [⟨0,⟨2,.t 34⟩⟩]⟩] [⟨some 36,none,.append false 2 (.t 21) (.t 35)⟩,⟨some 37,none,.fadr 0 (.t 5)⟩,⟨none,none,.store 1 (.t 37) (.t 36)⟩])) (.reg [1,2,4,5,6] [] [⟨some 18,none,.mv (.t 6)⟩,⟨some 19,none,.bin .add (.t 18) (.c (.flat (.int .i64 1)))⟩,⟨some 6,none,.asg (.t 19)⟩])))
def zdr:CCode:=ze2
theorem zg0 {cf:Nun.Callee} {m:Nat} {st:Nun.St}:evC cf m zdr st=evC cf m ze2 st:=rfl
attribute [go_sem] ze2
def ze3:CCode:=(.seq (.seq (.reg [1,2,4,5,7,46] [] [⟨some 38,none,.mv (.t 7)⟩,⟨some 39,none,.fadr 3 (.t 2)⟩,⟨some 40,none,.load false 1 (.t 39)⟩,⟨some 41,none,.len (.t 40)⟩,⟨some 42,none,.bin .lss (.t 38) (.t 41)⟩,⟨some 43,none,.mv (.t 42)⟩,⟨some 44,some ⟨43,true⟩,.mv (.t 1)⟩,⟨some 45,some ⟨43,true⟩,.bin .gtr (.t 44) (.c (.flat (.int .i64 0)))⟩,⟨some 46,none,.pick (.t 43) (.t 45) (.c (.flat (.bool false)))⟩]) (.cond (.t 46) .skip (.exit 2 [4,5]))) (.seq (.block 3 (.reg [1,2,4,5,7] [⟨some 49,none,.fadr 3 (.t 5)⟩,⟨some 50,none,.loadA (.t 49)⟩,⟨some 51,none,.fadr 3 (.t 2)⟩,⟨some 52,none,.load false 1 (.t 51)⟩,⟨some 53,none,.mv (.t 7)⟩,⟨some 54,none,.iadr 4 (.t 52) (.t 53)⟩,⟨some 55,none,.load true 4 (.t 54)⟩,⟨some 56,none,.mv (.t 1)⟩,⟨some 57,none,.bin .sub (.t 56) (.c (.flat (.int .i64 1)))⟩,⟨some 58,none,.call 20 [.t 55,.t 57]⟩,⟨some 59,none,.mksl false 1 4 [.flat (.slice .none 0 0),.flat (.string ⟨#[]⟩),.flat (.string ⟨#[]⟩),.flat (.slice .none 0 0)] [⟨0,⟨4,.t 58⟩⟩]⟩] [⟨some 60,none,.append false 4 (.t 50) (.t 59)⟩,⟨some 61,none,.fadr 3 (.t 5)⟩,⟨none,none,.store 1 (.t 61) (.t 60)⟩])) (.reg [1,2,4,5,7] [] [⟨some 47,none,.mv (.t 7)⟩,⟨some 48,none,.bin .add (.t 47) (.c (.flat (.int .i64 1)))⟩,⟨some 7,none,.asg (.t 48)⟩])))
def zb7:CCode:=ze3
theorem zci {cf:Nun.Callee} {m:Nat} {st:Nun.St}:evC cf m zb7 st=evC cf m ze3 st:=rfl
attribute [go_sem] ze3
def znv:CFun:=⟨63,[.inr ⟨4,⟨true,4⟩⟩],(.seq (.reg [1,2,4] [] [⟨some 2,none,.box 48 4 (.t 0)⟩,⟨some 4,none,.alloc 36 [.flat (.slice .none 0 0),.flat (.string ⟨#[]⟩),.flat (.string ⟨#[]⟩),.flat (.slice .none 0 0)]⟩]) (.seq (.reg [1,2,4,5] [] [⟨some 8,none,.fadr 1 (.t 2)⟩,⟨some 9,none,.load false 1 (.t 8)⟩,⟨some 10,none,.fadr 2 (.t 2)⟩,⟨some 11,none,.load false 1 (.t 10)⟩,⟨some 12,none,.build [.flat (.slice .none 0 0),.flat (.string ⟨#[]⟩),.flat (.string ⟨#[]⟩),.flat (.slice .none 0 0)] [⟨1,⟨1,.t 9⟩⟩,⟨2,⟨1,.t 11⟩⟩]⟩,⟨some 5,none,.alloc 36 [.flat (.slice .none 0 0),.flat (.string ⟨#[]⟩),.flat (.string ⟨#[]⟩),.flat (.slice .none 0 0)]⟩,⟨none,none,.store 4 (.t 5) (.t 12)⟩]) (.seq (.seq (.reg [1,2,4,5,6] [] [⟨some 6,none,.asg (.c (.flat (.int .i64 0)))⟩]) (.block 0 (.loop [1,2,4,5,6] zdr))) (.seq (.seq (.reg [1,2,4,5,7] [] [⟨some 7,none,.asg (.c (.flat (.int .i64 0)))⟩]) (.block 2 (.loop [1,2,4,5,7] zb7))) (.seq (.reg [4] [] [⟨some 62,none,.load true 4 (.t 5)⟩,⟨none,none,.store 4 (.t 4) (.t 62)⟩]) (.ret [4])))))),[]⟩
def zl4:CFun:=⟨36,[.inl 0],(.seq (.reg [] [] [⟨some 0,none,.asg (.c (.flat (.bool false)))⟩]) (.seq (.reg [1,2] [] [⟨some 4,none,.call 18 [.c (.flat (.string ⟨#[67,111,110,116,101,110,116,45,84,121,112,101,58,32,109,117,108,116,105,112,97,114,116,47,109,105,120,101,100,59,32,98,111,117,110,100,97,114,121,61,98,13,10,13,10,45,45,98,13,10,13,10,97,13,10,45,45,98,45,45,13,10]⟩))]⟩,⟨some 3,none,.mv (.t 4)⟩,⟨some 5,none,.ext (.t 3) 0⟩,⟨some 6,none,.ext (.t 3) 1⟩,⟨some 1,none,.alloc 48 [.flat (.slice .none 0 0),.flat (.string ⟨#[]⟩),.flat (.string ⟨#[]⟩),.flat (.slice .none 0 0)]⟩,⟨none,none,.store 4 (.t 1) (.t 5)⟩,⟨some 2,none,.asg (.t 6)⟩]) (.seq (.reg [0] [] [⟨some 7,none,.mv (.t 2)⟩,⟨some 8,none,.bin .eql (.t 7) (.c (.flat (.int .i64 0)))⟩,⟨some 9,none,.mv (.t 8)⟩,⟨some 10,some ⟨9,true⟩,.fadr 1 (.t 1)⟩,⟨some 11,some ⟨9,true⟩,.load false 1 (.t 10)⟩,⟨some 12,some ⟨9,true⟩,.bin .eql (.t 11) (.c (.flat (.string ⟨#[109,117,108,116,105,112,97,114,116,47,109,105,120,101,100]⟩)))⟩,⟨some 13,none,.pick (.t 9) (.t 12) (.c (.flat (.bool false)))⟩,⟨some 14,none,.mv (.t 13)⟩,⟨some 15,some ⟨14,true⟩,.fadr 3 (.t 1)⟩,⟨some 16,some ⟨14,true⟩,.load false 1 (.t 15)⟩,⟨some 17,some ⟨14,true⟩,.len (.t 16)⟩,⟨some 18,some ⟨14,true⟩,.bin .eql (.t 17) (.c (.flat (.int .i64 1)))⟩,⟨some 19,none,.pick (.t 14) (.t 18) (.c (.flat (.bool false)))⟩,⟨some 20,none,.mv (.t 19)⟩,⟨some 21,some ⟨20,true⟩,.fadr 3 (.t 1)⟩,⟨some 22,some ⟨20,true⟩,.load false 1 (.t 21)⟩,⟨some 23,some ⟨20,true⟩,.iadr 4 (.t 22) (.c (.flat (.int .i64 0)))⟩,⟨some 24,some ⟨20,true⟩,.fadr 1 (.t 23)⟩,⟨some 25,some ⟨20,true⟩,.load false 1 (.t 24)⟩,⟨some 26,some ⟨20,true⟩,.bin .eql (.t 25) (.c (.flat (.string ⟨#[116,101,120,116,47,112,108,97,105,110]⟩)))⟩,⟨some 27,none,.pick (.t 20) (.t 26) (.c (.flat (.bool false)))⟩,⟨some 28,none,.mv (.t 27)⟩,⟨some 29,some ⟨28,true⟩,.fadr 3 (.t 1)⟩,⟨some 30,some ⟨28,true⟩,.load false 1 (.t 29)⟩,⟨some 31,some ⟨28,true⟩,.iadr 4 (.t 30) (.c (.flat (.int .i64 0)))⟩,⟨some 32,some ⟨28,true⟩,.fadr 2 (.t 31)⟩,⟨some 33,some ⟨28,true⟩,.load false 1 (.t 32)⟩,⟨some 34,some ⟨28,true⟩,.bin .eql (.t 33) (.c (.flat (.string ⟨#[97]⟩)))⟩,⟨some 35,none,.pick (.t 28) (.t 34) (.c (.flat (.bool false)))⟩,⟨some 0,none,.asg (.t 35)⟩]) (.ret [0])))),[]⟩
def zj5:CCode:=(.seq (.seq (.reg [2,3,5,39] [] [⟨some 35,none,.mv (.t 5)⟩,⟨some 36,none,.fadr 3 (.t 2)⟩,⟨some 37,none,.load false 1 (.t 36)⟩,⟨some 38,none,.len (.t 37)⟩,⟨some 39,none,.bin .lss (.t 35) (.t 38)⟩]) (.cond (.t 39) .skip (.exit 0 []))) (.seq (.block 1 (.seq (.reg [2,3,5,53] [⟨some 42,none,.fadr 3 (.t 2)⟩,⟨some 43,none,.load false 1 (.t 42)⟩,⟨some 44,none,.mv (.t 5)⟩,⟨some 45,none,.iadr 4 (.t 43) (.t 44)⟩,⟨some 46,none,.load true 4 (.t 45)⟩,⟨some 47,none,.fadr 3 (.t 3)⟩,⟨some 48,none,.load false 1 (.t 47)⟩,⟨some 49,none,.mv (.t 5)⟩,⟨some 50,none,.iadr 4 (.t 48) (.t 49)⟩,⟨some 51,none,.load true 4 (.t 50)⟩] [⟨some 52,none,.call 19 [.t 46,.t 51]⟩,⟨some 53,none,.un .not (.t 52)⟩]) (.cond (.t 53) (.seq (.reg [4] [] [⟨some 4,none,.asg (.c (.flat (.bool false)))⟩]) (.ret [4])) .skip))) (.reg [2,3,5] [] [⟨some 40,none,.mv (.t 5)⟩,⟨some 41,none,.bin .add (.t 40) (.c (.flat (.int .i64 1)))⟩,⟨some 5,none,.asg (.t 41)⟩])))
def zj6:CCode:=zj5
theorem zi6 {cf:Nun.Callee} {m:Nat} {st:Nun.St}:evC cf m zj6 st=evC cf m zj5 st:=rfl
attribute [go_sem] zj5
def z1s:CFun:=⟨54,[.inl 4],(.seq (.reg [2,3] [] [⟨some 2,none,.box 36 4 (.t 0)⟩,⟨some 3,none,.box 36 4 (.t 1)⟩,⟨some 4,none,.asg (.c (.flat (.bool false)))⟩]) (.seq (.seq (.reg [2,3,34] [] [⟨some 6,none,.fadr 1 (.t 2)⟩,⟨some 7,none,.load false 1 (.t 6)⟩,⟨some 8,none,.fadr 1 (.t 3)⟩,⟨some 9,none,.load false 1 (.t 8)⟩,⟨some 10,none,.bin .neq (.t 7) (.t 9)⟩,⟨some 11,none,.mv (.t 10)⟩,⟨some 12,some ⟨11,false⟩,.fadr 2 (.t 2)⟩,⟨some 13,some ⟨11,false⟩,.load false 1 (.t 12)⟩,⟨some 14,some ⟨11,false⟩,.fadr 2 (.t 3)⟩,⟨some 15,some ⟨11,false⟩,.load false 1 (.t 14)⟩,⟨some 16,some ⟨11,false⟩,.bin .neq (.t 13) (.t 15)⟩,⟨some 17,none,.pick (.t 11) (.c (.flat (.bool true))) (.t 16)⟩,⟨some 18,none,.mv (.t 17)⟩,⟨some 19,some ⟨18,false⟩,.fadr 0 (.t 2)⟩,⟨some 20,some ⟨18,false⟩,.load false 1 (.t 19)⟩,⟨some 21,some ⟨18,false⟩,.fadr 0 (.t 3)⟩,⟨some 22,some ⟨18,false⟩,.load false 1 (.t 21)⟩,⟨some 23,some ⟨18,false⟩,.call 40 [.t 20,.t 22]⟩,⟨some 24,some ⟨18,false⟩,.un .not (.t 23)⟩,⟨some 25,none,.pick (.t 18) (.c (.flat (.bool true))) (.t 24)⟩,⟨some 26,none,.mv (.t 25)⟩,⟨some 27,some ⟨26,false⟩,.fadr 3 (.t 2)⟩,⟨some 28,some ⟨26,false⟩,.load false 1 (.t 27)⟩,⟨some 29,some ⟨26,false⟩,.len (.t 28)⟩,⟨some 30,some ⟨26,false⟩,.fadr 3 (.t 3)⟩,⟨some 31,some ⟨26,false⟩,.load false 1 (.t 30)⟩,⟨some 32,some ⟨26,false⟩,.len (.t 31)⟩,⟨some 33,some ⟨26,false⟩,.bin .neq (.t 29) (.t 32)⟩,⟨some 34,none,.pick (.t 26) (.c (.flat (.bool true))) (.t 33)⟩]) (.cond (.t 34) (.seq (.reg [4] [] [⟨some 4,none,.asg (.c (.flat (.bool false)))⟩]) (.ret [4])) .skip)) (.seq (.seq (.reg [2,3,5] [] [⟨some 5,none,.asg (.c (.flat (.int .i64 0)))⟩]) (.block 0 (.loop [2,3,5] zj6))) (.seq (.reg [4] [] [⟨some 4,none,.asg (.c (.flat (.bool true)))⟩]) (.ret [4]))))),[]⟩
def zj7:CCode:=(.seq (.seq (.reg [0,1,5,14] [] [⟨some 11,none,.mv (.t 5)⟩,⟨some 12,none,.mv (.t 0)⟩,⟨some 13,none,.len (.t 12)⟩,⟨some 14,none,.bin .lss (.t 11) (.t 13)⟩]) (.cond (.t 14) .skip (.exit 0 []))) (.seq (.block 1 (.seq (.reg [0,1,5,40] [⟨some 17,none,.mv (.t 0)⟩,⟨some 18,none,.mv (.t 5)⟩,⟨some 19,none,.iadr 2 (.t 17) (.t 18)⟩,⟨some 20,none,.fadr 0 (.t 19)⟩,⟨some 21,none,.load false 1 (.t 20)⟩,⟨some 22,none,.mv (.t 1)⟩,⟨some 23,none,.mv (.t 5)⟩,⟨some 24,none,.iadr 2 (.t 22) (.t 23)⟩,⟨some 25,none,.fadr 0 (.t 24)⟩,⟨some 26,none,.load false 1 (.t 25)⟩,⟨some 27,none,.bin .neq (.t 21) (.t 26)⟩,⟨some 28,none,.mv (.t 27)⟩,⟨some 29,some ⟨28,false⟩,.mv (.t 0)⟩,⟨some 30,some ⟨28,false⟩,.mv (.t 5)⟩,⟨some 31,some ⟨28,false⟩,.iadr 2 (.t 29) (.t 30)⟩,⟨some 32,some ⟨28,false⟩,.fadr 1 (.t 31)⟩,⟨some 33,some ⟨28,false⟩,.load false 1 (.t 32)⟩,⟨some 34,some ⟨28,false⟩,.mv (.t 1)⟩,⟨some 35,some ⟨28,false⟩,.mv (.t 5)⟩,⟨some 36,some ⟨28,false⟩,.iadr 2 (.t 34) (.t 35)⟩,⟨some 37,some ⟨28,false⟩,.fadr 1 (.t 36)⟩,⟨some 38,some ⟨28,false⟩,.load false 1 (.t 37)⟩] [⟨some 39,some ⟨28,false⟩,.bin .neq (.t 33) (.t 38)⟩,⟨some 40,none,.pick (.t 28) (.c (.flat (.bool true))) (.t 39)⟩]) (.cond (.t 40) (.seq (.reg [4] [] [⟨some 4,none,.asg (.c (.flat (.bool false)))⟩]) (.ret [4])) .skip))) (.reg [0,1,5] [] [⟨some 15,none,.mv (.t 5)⟩,⟨some 16,none,.bin .add (.t 15) (.c (.flat (.int .i64 1)))⟩,⟨some 5,none,.asg (.t 16)⟩])))
def zj8:CCode:=zj7
theorem zg5 {cf:Nun.Callee} {m:Nat} {st:Nun.St}:evC cf m zj8 st=evC cf m zj7 st:=rfl
attribute [go_sem] zj7
def z1t:CFun:=⟨41,[.inl 4],(.seq (.reg [0,1] [] [⟨some 4,none,.asg (.c (.flat (.bool false)))⟩]) (.seq (.seq (.reg [0,1,10] [] [⟨some 6,none,.mv (.t 0)⟩,⟨some 7,none,.len (.t 6)⟩,⟨some 8,none,.mv (.t 1)⟩,⟨some 9,none,.len (.t 8)⟩,⟨some 10,none,.bin .neq (.t 7) (.t 9)⟩]) (.cond (.t 10) (.seq (.reg [4] [] [⟨some 4,none,.asg (.c (.flat (.bool false)))⟩]) (.ret [4])) .skip)) (.seq (.seq (.reg [0,1,5] [] [⟨some 5,none,.asg (.c (.flat (.int .i64 0)))⟩]) (.block 0 (.loop [0,1,5] zj8))) (.seq (.reg [4] [] [⟨some 4,none,.asg (.c (.flat (.bool true)))⟩]) (.ret [4]))))),[]⟩
def zdk:CCode:=(.seq (.reg [0,2,6,10,91,92,93,94] [] [⟨some 94,none,.bin .lss (.t 93) (.t 92)⟩]) (.seq (.cond (.t 94) .skip (.exit 2 [6,10])) (.seq (.block 3 (.seq (.reg [0,2,6,10,17,91,92,93] [] [⟨some 95,none,.iadr 1 (.t 91) (.t 93)⟩,⟨some 96,none,.load false 1 (.t 95)⟩,⟨some 17,none,.asg (.t 96)⟩]) (.regT [0,2,6,10,91,92,93] [⟨some 97,none,.fadr 3 (.t 10)⟩,⟨some 99,none,.mv (.t 0)⟩,⟨some 100,none,.mv (.t 17)⟩,⟨some 101,none,.mv (.t 2)⟩,⟨some 102,none,.bin .add (.t 101) (.c (.flat (.int .i64 1)))⟩] (.two ⟨some 98,none,.loadM (.t 97)⟩ (.one ⟨some 103,none,.call 39 [.t 99,.t 100,.t 102]⟩ (.one ⟨some 104,none,.mksl false 1 4 [.flat (.slice .none 0 0),.flat (.string ⟨#[]⟩),.flat (.string ⟨#[]⟩),.flat (.slice .none 0 0)] [⟨0,⟨4,.t 103⟩⟩]⟩ (.one ⟨some 105,none,.append false 4 (.t 98) (.t 104)⟩ (.one ⟨some 106,none,.fadr 3 (.t 10)⟩ (.one ⟨none,none,.store 1 (.t 106) (.t 105)⟩ .done))))) (.one ⟨some 103,none,.call 39 [.t 99,.t 100,.t 102]⟩ (.two ⟨some 98,none,.loadM (.t 97)⟩ (.one ⟨some 104,none,.mksl false 1 4 [.flat (.slice .none 0 0),.flat (.string ⟨#[]⟩),.flat (.string ⟨#[]⟩),.flat (.slice .none 0 0)] [⟨0,⟨4,.t 103⟩⟩]⟩ (.one ⟨some 105,none,.append false 4 (.t 98) (.t 104)⟩ (.one ⟨some 106,none,.fadr 3 (.t 10)⟩ (.one ⟨none,none,.store 1 (.t 106) (.t 105)⟩ .done)))) (.one ⟨some 104,none,.mksl false 1 4 [.flat (.slice .none 0 0),.flat (.string ⟨#[]⟩),.flat (.string ⟨#[]⟩),.flat (.slice .none 0 0)] [⟨0,⟨4,.t 103⟩⟩]⟩ (.one ⟨some 98,none,.loadM (.t 97)⟩ (.one ⟨some 105,none,.append false 4 (.t 98) (.t 104)⟩ (.one ⟨some 106,none,.fadr 3 (.t 10)⟩ (.one ⟨none,none,.store 1 (.t 106) (.t 105)⟩ .done))))))))))) (.reg [0,2,6,10,91,92,93] [] [⟨some 107,none,.bin .add (.t 93) (.c (.flat (.int .i64 1)))⟩,⟨some 93,none,.mv (.t 107)⟩]))))
def zan:CCode:=zdk
theorem zb9 {cf:Nun.Callee} {m:Nat} {st:Nun.St}:evC cf m zan st=evC cf m zdk st:=rfl
attribute [go_sem] zdk
def zfb:CCode:=(.reg [14,15] [] [⟨some 15,none,.asg (.t 68)⟩])
def zfc:CCode:=(.block 1 (.reg [] [] [⟨some 69,none,.loadA (.t 14)⟩,⟨some 70,none,.mv (.t 15)⟩,⟨some 71,none,.mksl false 1 1 [.flat (.string ⟨#[]⟩)] [⟨0,⟨1,.t 70⟩⟩]⟩,⟨some 72,none,.append false 1 (.t 69) (.t 71)⟩,⟨none,none,.store 1 (.t 14) (.t 72)⟩]))
def zjt:CFun:=⟨109,[.inr ⟨6,⟨true,4⟩⟩],(.seq (.reg [0,1,2,6] [] [⟨some 6,none,.alloc 48 [.flat (.slice .none 0 0),.flat (.string ⟨#[]⟩),.flat (.string ⟨#[]⟩),.flat (.slice .none 0 0)]⟩]) (.seq (.reg [0,1,2,6,7,8,9] [] [⟨some 19,none,.mv (.t 1)⟩,⟨some 20,none,.call 69 [.t 19]⟩,⟨some 18,none,.mv (.t 20)⟩,⟨some 21,none,.ext (.t 18) 0⟩,⟨some 22,none,.ext (.t 18) 1⟩,⟨some 23,none,.ext (.t 18) 2⟩,⟨some 7,none,.asg (.t 21)⟩,⟨some 8,none,.asg (.t 22)⟩,⟨some 9,none,.asg (.t 23)⟩]) (.seq (.reg [0,1,2,6,7,8] [] [⟨some 24,none,.mv (.t 9)⟩,⟨some 25,none,.bin .eql (.t 24) (.c (.flat (.int .i64 0)))⟩,⟨some 26,none,.mv (.t 9)⟩,⟨some 27,none,.call 70 [.t 25,.t 26]⟩]) (.seq (.reg [0,1,2,6,7,8,10] [] [⟨some 28,none,.mv (.t 7)⟩,⟨some 29,none,.build [.flat (.slice .none 0 0),.flat (.string ⟨#[]⟩),.flat (.string ⟨#[]⟩),.flat (.slice .none 0 0)] [⟨0,⟨1,.t 28⟩⟩]⟩,⟨some 10,none,.alloc 48 [.flat (.slice .none 0 0),.flat (.string ⟨#[]⟩),.flat (.string ⟨#[]⟩),.flat (.slice .none 0 0)]⟩,⟨none,none,.store 4 (.t 10) (.t 29)⟩]) (.seq (.reg [0,1,2,6,7,8,10] [] [⟨some 11,none,.asg (.c (.flat (.string ⟨#[]⟩)))⟩]) (.seq (.reg [0,1,2,6,7,8,10,11] [] [⟨some 31,none,.mv (.t 7)⟩,⟨some 32,none,.call 71 [.t 31]⟩,⟨some 30,none,.mv (.t 32)⟩,⟨some 33,none,.ext (.t 30) 0⟩,⟨some 34,none,.ext (.t 30) 1⟩,⟨some 35,none,.fadr 1 (.t 10)⟩,⟨none,none,.store 1 (.t 35) (.t 33)⟩,⟨some 11,none,.asg (.t 34)⟩]) (.seq (.reg [0,1,2,6,8,10,11,12,13] [] [⟨some 37,none,.mv (.t 7)⟩,⟨some 38,none,.call 72 [.t 37,.c (.flat (.string ⟨#[99,111,110,116,101,110,116,45,116,114,97,110,115,102,101,114,45,101,110,99,111,100,105,110,103]⟩))]⟩,⟨some 36,none,.mv (.t 38)⟩,⟨some 39,none,.ext (.t 36) 0⟩,⟨some 40,none,.ext (.t 36) 1⟩,⟨some 12,none,.asg (.t 39)⟩,⟨some 13,none,.asg (.t 40)⟩]) (.seq (.seq (.reg [0,1,2,6,8,10,11,12,42] [] [⟨some 41,none,.mv (.t 13)⟩,⟨some 42,none,.bin .eql (.t 41) (.c (.flat (.int .i64 0)))⟩]) (.cond (.t 42) (.reg [0,1,2,6,8,10,11,12] [] [⟨some 12,none,.asg (.c (.flat (.string ⟨#[55,98,105,116]⟩)))⟩]) .skip)) (.seq (.reg [0,1,2,6,8,10,11,12] [] [⟨some 43,none,.mv (.t 12)⟩,⟨some 44,none,.call 73 [.t 43]⟩,⟨some 12,none,.asg (.t 44)⟩]) (.seq (.seq (.reg [0,1,2,6,8,10,11,12,48] [] [⟨some 45,none,.fadr 1 (.t 10)⟩,⟨some 46,none,.load false 1 (.t 45)⟩,⟨some 47,none,.call 74 [.t 46,.c (.flat (.string ⟨#[109,117,108,116,105,112,97,114,116,47]⟩))]⟩,⟨some 48,none,.un .not (.t 47)⟩]) (.cond (.t 48) (.seq (.reg [6,10] [] [⟨some 49,none,.mv (.t 1)⟩,⟨some 50,none,.mv (.t 8)⟩,⟨some 51,none,.sliceS (.t 49) (.some (.t 50)) .none⟩,⟨some 52,none,.mv (.t 12)⟩,⟨some 53,none,.call 75 [.t 51,.t 52]⟩,⟨some 54,none,.fadr 2 (.t 10)⟩,⟨none,none,.store 1 (.t 54) (.t 53)⟩]) (.seq (.reg [6] [] [⟨some 55,none,.load true 4 (.t 10)⟩,⟨none,none,.store 4 (.t 6) (.t 55)⟩]) (.ret [6]))) .skip)) (.seq (.reg [0,1,2,6,8,10,11] [] [⟨some 56,none,.mv (.t 12)⟩,⟨some 57,none,.bin .eql (.t 56) (.c (.flat (.string ⟨#[55,98,105,116]⟩)))⟩,⟨some 58,none,.mv (.t 57)⟩,⟨some 59,some ⟨58,true⟩,.mv (.t 11)⟩,⟨some 60,some ⟨58,true⟩,.call 76 [.t 59]⟩,⟨some 61,none,.pick (.t 58) (.t 60) (.c (.flat (.bool false)))⟩,⟨some 62,none,.call 70 [.t 61,.c (.flat (.int .i64 7))]⟩]) (.seq (.reg [0,1,2,6,8,10,11,14] [] [⟨some 14,none,.alloc 39 [.flat (.slice .none 0 0)]⟩]) (.seq (.seq (.reg [0,2,6,10,14,67] [] [⟨some 63,none,.mv (.t 1)⟩,⟨some 64,none,.mv (.t 8)⟩,⟨some 65,none,.sliceS (.t 63) (.some (.t 64)) .none⟩,⟨some 66,none,.mv (.t 11)⟩,⟨some 67,none,.call 77 [.t 65,.t 66]⟩]) (.block 0 (.range 39 0 [14] (.t 67)))) (.seq (.reg [0,2,6,10,14] [] [⟨some 73,none,.mv (.t 2)⟩,⟨some 74,none,.bin .lss (.t 73) (.c (.flat (.int .i64 4)))⟩,⟨some 75,none,.call 70 [.t 74,.c (.flat (.int .i64 8))]⟩]) (.seq (.reg [0,2,6,10,14] [⟨some 76,none,.mv (.t 0)⟩,⟨some 77,none,.nilc (.t 76)⟩,⟨some 78,none,.fadr 0 (.t 77)⟩,⟨some 79,none,.load false 1 (.t 78)⟩,⟨some 80,none,.load false 1 (.t 14)⟩,⟨some 81,none,.len (.t 80)⟩] [⟨some 82,none,.bin .add (.t 79) (.t 81)⟩,⟨some 83,none,.nilc (.t 76)⟩,⟨some 84,none,.fadr 0 (.t 83)⟩,⟨none,none,.store 1 (.t 84) (.t 82)⟩]) (.seq (.reg [0,2,6,10,14] [] [⟨some 85,none,.mv (.t 0)⟩,⟨some 86,none,.nilc (.t 85)⟩,⟨some 87,none,.fadr 0 (.t 86)⟩,⟨some 88,none,.load false 1 (.t 87)⟩,⟨some 89,none,.bin .leq (.t 88) (.c (.flat (.int .i64 64)))⟩,⟨some 90,none,.call 70 [.t 89,.c (.flat (.int .i64 5))]⟩]) (.seq (.seq (.reg [0,2,6,10,91,92,93] [] [⟨some 91,none,.load false 1 (.t 14)⟩,⟨some 92,none,.len (.t 91)⟩,⟨some 93,none,.mv (.c (.flat (.int .i64 0)))⟩]) (.block 2 (.loop [0,2,6,10,91,92,93] zan))) (.seq (.reg [6] [] [⟨some 108,none,.load true 4 (.t 10)⟩,⟨none,none,.store 4 (.t 6) (.t 108)⟩]) (.ret [6]))))))))))))))))))),[([68],zfb,zfc)]⟩
def zt4:CFun:=⟨9,[],(.seq (.reg [1,5] [] [⟨some 4,none,.mv (.t 0)⟩,⟨some 5,none,.un .not (.t 4)⟩]) (.cond (.t 5) (.reg [] [] [⟨some 6,none,.mv (.t 1)⟩,⟨some 7,none,.build [.flat (.int .i64 0)] [⟨0,⟨1,.t 6⟩⟩]⟩,⟨some 8,none,.nilc (.c .unk)⟩,⟨none,none,.nilc (.c .unk)⟩]) .skip)),[]⟩
def zhq:CCode:=(.seq (.reg [8,11,46,47,48,49] [] [⟨some 49,none,.bin .lss (.t 48) (.t 47)⟩]) (.seq (.cond (.t 49) .skip (.exit 0 [8,11])) (.seq (.block 1 (.seq (.reg [8,11,13,46,47,48] [] [⟨some 50,none,.iadr 2 (.t 46) (.t 48)⟩,⟨some 51,none,.load true 2 (.t 50)⟩,⟨some 13,none,.alloc 114 [.flat (.string ⟨#[]⟩),.flat (.string ⟨#[]⟩)]⟩,⟨none,none,.store 2 (.t 13) (.t 51)⟩]) (.seq (.reg [8,11,13,46,47,48,54] [] [⟨some 52,none,.fadr 0 (.t 13)⟩,⟨some 53,none,.load false 1 (.t 52)⟩,⟨some 54,none,.call 126 [.t 53,.c (.flat (.string ⟨#[98,111,117,110,100,97,114,121]⟩))]⟩]) (.cond (.t 54) (.reg [8,11,46,47,48] [] [⟨some 55,none,.fadr 1 (.t 13)⟩,⟨some 56,none,.load false 1 (.t 55)⟩,⟨some 11,none,.asg (.t 56)⟩]) .skip)))) (.reg [8,11,46,47,48] [] [⟨some 57,none,.bin .add (.t 48) (.c (.flat (.int .i64 1)))⟩,⟨some 48,none,.mv (.t 57)⟩]))))
def zfo:CCode:=zhq
theorem zgr {cf:Nun.Callee} {m:Nat} {st:Nun.St}:evC cf m zfo st=evC cf m zhq st:=rfl
attribute [go_sem] zhq
def zt5:CFun:=⟨82,[.inl 2,.inl 3],(.seq (.reg [0] [] [⟨some 2,none,.asg (.c (.flat (.string ⟨#[]⟩)))⟩,⟨some 3,none,.asg (.c (.flat (.string ⟨#[]⟩)))⟩]) (.seq (.reg [0,4,5] [] [⟨some 18,none,.mv (.t 0)⟩,⟨some 19,none,.call 72 [.t 18,.c (.flat (.string ⟨#[99,111,110,116,101,110,116,45,116,121,112,101]⟩))]⟩,⟨some 17,none,.mv (.t 19)⟩,⟨some 20,none,.ext (.t 17) 0⟩,⟨some 21,none,.ext (.t 17) 1⟩,⟨some 4,none,.asg (.t 20)⟩,⟨some 5,none,.asg (.t 21)⟩]) (.seq (.reg [4,5,7] [] [⟨some 23,none,.mv (.t 0)⟩,⟨some 24,none,.call 72 [.t 23,.c (.flat (.string ⟨#[99,111,110,116,101,110,116,45,116,114,97,110,115,102,101,114,45,101,110,99,111,100,105,110,103]⟩))]⟩,⟨some 22,none,.mv (.t 24)⟩,⟨some 25,none,.ext (.t 22) 0⟩,⟨some 26,none,.ext (.t 22) 1⟩,⟨some 6,none,.asg (.t 25)⟩,⟨some 7,none,.asg (.t 26)⟩]) (.seq (.reg [4,5] [] [⟨some 27,none,.mv (.t 5)⟩,⟨some 28,none,.bin .lss (.t 27) (.c (.flat (.int .i64 2)))⟩,⟨some 29,none,.mv (.t 28)⟩,⟨some 30,some ⟨29,true⟩,.mv (.t 7)⟩,⟨some 31,some ⟨29,true⟩,.bin .lss (.t 30) (.c (.flat (.int .i64 2)))⟩,⟨some 32,none,.pick (.t 29) (.t 31) (.c (.flat (.bool false)))⟩,⟨some 33,none,.call 70 [.t 32,.c (.flat (.int .i64 9))]⟩]) (.seq (.seq (.reg [4,35] [] [⟨some 34,none,.mv (.t 5)⟩,⟨some 35,none,.bin .eql (.t 34) (.c (.flat (.int .i64 0)))⟩]) (.cond (.t 35) (.seq (.reg [2,3] [] [⟨some 2,none,.asg (.c (.flat (.string ⟨#[116,101,120,116,47,112,108,97,105,110]⟩)))⟩,⟨some 3,none,.asg (.c (.flat (.string ⟨#[]⟩)))⟩]) (.ret [2,3])) .skip)) (.seq (.reg [8,9,10] [] [⟨some 37,none,.mv (.t 4)⟩,⟨some 38,none,.call 125 [.t 37]⟩,⟨some 36,none,.mv (.t 38)⟩,⟨some 39,none,.ext (.t 36) 0⟩,⟨some 40,none,.ext (.t 36) 1⟩,⟨some 41,none,.ext (.t 36) 2⟩,⟨some 8,none,.asg (.t 39)⟩,⟨some 9,none,.asg (.t 40)⟩,⟨some 10,none,.asg (.t 41)⟩]) (.seq (.reg [8,9] [] [⟨some 42,none,.mv (.t 10)⟩,⟨some 43,none,.bin .eql (.t 42) (.c (.flat (.int .i64 0)))⟩,⟨some 44,none,.mv (.t 10)⟩,⟨some 45,none,.call 70 [.t 43,.t 44]⟩]) (.seq (.reg [8,9,11] [] [⟨some 11,none,.asg (.c (.flat (.string ⟨#[]⟩)))⟩]) (.seq (.seq (.reg [8,11,46,47,48] [] [⟨some 46,none,.mv (.t 9)⟩,⟨some 47,none,.len (.t 46)⟩,⟨some 48,none,.mv (.c (.flat (.int .i64 0)))⟩]) (.block 0 (.loop [8,11,46,47,48] zfo))) (.seq (.reg [8,11,14,15,16] [] [⟨some 59,none,.mv (.t 8)⟩,⟨some 60,none,.call 79 [.t 59,.c (.flat (.string ⟨#[47]⟩))]⟩,⟨some 58,none,.mv (.t 60)⟩,⟨some 61,none,.ext (.t 58) 0⟩,⟨some 62,none,.ext (.t 58) 1⟩,⟨some 63,none,.ext (.t 58) 2⟩,⟨some 14,none,.asg (.t 61)⟩,⟨some 15,none,.asg (.t 62)⟩,⟨some 16,none,.asg (.t 63)⟩]) (.seq (.reg [8,11] [] [⟨some 64,none,.mv (.t 16)⟩,⟨some 65,none,.mv (.t 64)⟩,⟨some 66,some ⟨65,true⟩,.mv (.t 14)⟩,⟨some 67,some ⟨65,true⟩,.bin .neq (.t 66) (.c (.flat (.string ⟨#[]⟩)))⟩,⟨some 68,none,.pick (.t 65) (.t 67) (.c (.flat (.bool false)))⟩,⟨some 69,none,.mv (.t 68)⟩,⟨some 70,some ⟨69,true⟩,.mv (.t 15)⟩,⟨some 71,some ⟨69,true⟩,.bin .neq (.t 70) (.c (.flat (.string ⟨#[]⟩)))⟩,⟨some 72,none,.pick (.t 69) (.t 71) (.c (.flat (.bool false)))⟩,⟨some 73,none,.mv (.t 72)⟩,⟨some 74,some ⟨73,true⟩,.mv (.t 15)⟩,⟨some 75,some ⟨73,true⟩,.call 32 [.t 74,.c (.flat (.int .u8 47))]⟩,⟨some 76,some ⟨73,true⟩,.bin .lss (.t 75) (.c (.flat (.int .i64 0)))⟩,⟨some 77,none,.pick (.t 73) (.t 76) (.c (.flat (.bool false)))⟩,⟨some 78,none,.call 70 [.t 77,.c (.flat (.int .i64 7))]⟩]) (.seq (.reg [2,3] [] [⟨some 79,none,.mv (.t 8)⟩,⟨some 80,none,.call 73 [.t 79]⟩,⟨some 81,none,.mv (.t 11)⟩,⟨some 2,none,.asg (.t 80)⟩,⟨some 3,none,.asg (.t 81)⟩]) (.ret [2,3]))))))))))))),[]⟩
def zt6:CFun:=⟨30,[.inl 4],(.seq (.reg [0,1] [] [⟨some 4,none,.asg (.c (.flat (.string ⟨#[]⟩)))⟩]) (.seq (.reg [0,1,5,6] [] [⟨some 5,none,.asg (.c (.flat (.string ⟨#[]⟩)))⟩,⟨some 6,none,.asg (.c (.flat (.int .i64 7)))⟩]) (.seq (.seq (.reg [0,5,6,7] [] [⟨some 7,none,.mv (.t 1)⟩]) (.block 0 (.seq (.reg [0,5,6,7,8] [] [⟨some 9,none,.bin .eql (.t 7) (.c (.flat (.string ⟨#[55,98,105,116]⟩)))⟩,⟨some 8,none,.asg (.t 9)⟩]) (.cond (.t 8) (.seq (.reg [4] [] [⟨some 10,none,.mv (.t 0)⟩,⟨some 11,none,.call 128 [.t 10]⟩,⟨some 4,none,.asg (.t 11)⟩]) (.ret [4])) (.seq (.reg [0,5,6,7,12] [] [⟨some 13,none,.bin .eql (.t 7) (.c (.flat (.string ⟨#[113,117,111,116,101,100,45,112,114,105,110,116,97,98,108,101]⟩)))⟩,⟨some 12,none,.asg (.t 13)⟩]) (.cond (.t 12) (.reg [5,6] [] [⟨some 15,none,.mv (.t 0)⟩,⟨some 16,none,.call 129 [.t 15]⟩,⟨some 14,none,.mv (.t 16)⟩,⟨some 17,none,.ext (.t 14) 0⟩,⟨some 18,none,.ext (.t 14) 1⟩,⟨some 5,none,.asg (.t 17)⟩,⟨some 6,none,.asg (.t 18)⟩]) (.seq (.reg [0,5,6,19] [] [⟨some 20,none,.bin .eql (.t 7) (.c (.flat (.string ⟨#[98,97,115,101,54,52]⟩)))⟩,⟨some 19,none,.asg (.t 20)⟩]) (.cond (.t 19) (.reg [5,6] [] [⟨some 22,none,.mv (.t 0)⟩,⟨some 23,none,.call 130 [.t 22]⟩,⟨some 21,none,.mv (.t 23)⟩,⟨some 24,none,.ext (.t 21) 0⟩,⟨some 25,none,.ext (.t 21) 1⟩,⟨some 5,none,.asg (.t 24)⟩,⟨some 6,none,.asg (.t 25)⟩]) .skip)))))))) (.seq (.reg [5] [] [⟨some 26,none,.mv (.t 6)⟩,⟨some 27,none,.bin .eql (.t 26) (.c (.flat (.int .i64 0)))⟩,⟨some 28,none,.call 70 [.t 27,.c (.flat (.int .i64 7))]⟩]) (.seq (.reg [4] [] [⟨some 29,none,.mv (.t 5)⟩,⟨some 4,none,.asg (.t 29)⟩]) (.ret [4])))))),[]⟩
def zgs:CCode:=(.seq (.reg [0,6,7,8] [] [⟨some 8,none,.bin .lss (.t 7) (.t 6)⟩]) (.seq (.cond (.t 8) .skip (.exit 0 [0])) (.seq (.block 1 (.seq (.reg [0,3,6,7] [] [⟨some 9,none,.mv (.t 7)⟩,⟨some 3,none,.asg (.t 9)⟩]) (.reg [0,6,7] [] [⟨some 10,none,.mv (.t 0)⟩,⟨some 11,none,.mv (.t 3)⟩,⟨some 12,none,.idx (.t 10) (.t 11)⟩,⟨some 13,none,.bin .gtr (.t 12) (.c (.flat (.int .u8 0)))⟩,⟨some 14,none,.mv (.t 13)⟩,⟨some 15,some ⟨14,true⟩,.mv (.t 0)⟩,⟨some 16,some ⟨14,true⟩,.mv (.t 3)⟩,⟨some 17,some ⟨14,true⟩,.idx (.t 15) (.t 16)⟩,⟨some 18,some ⟨14,true⟩,.bin .lss (.t 17) (.c (.flat (.int .u8 128)))⟩,⟨some 19,none,.pick (.t 14) (.t 18) (.c (.flat (.bool false)))⟩,⟨some 20,none,.call 70 [.t 19,.c (.flat (.int .i64 7))]⟩]))) (.reg [0,6,7] [] [⟨some 21,none,.bin .add (.t 7) (.c (.flat (.int .i64 1)))⟩,⟨some 7,none,.mv (.t 21)⟩]))))
def zcg:CCode:=zgs
theorem zf1 {cf:Nun.Callee} {m:Nat} {st:Nun.St}:evC cf m zcg st=evC cf m zgs st:=rfl
attribute [go_sem] zgs
def zrz:CFun:=⟨35,[.inl 2],(.seq (.reg [0] [] [⟨some 2,none,.asg (.c (.flat (.string ⟨#[]⟩)))⟩]) (.seq (.seq (.reg [0,6,7] [] [⟨some 5,none,.mv (.t 0)⟩,⟨some 6,none,.lenS (.t 5)⟩,⟨some 7,none,.mv (.c (.flat (.int .i64 0)))⟩]) (.block 0 (.loop [0,6,7] zcg))) (.seq (.reg [4] [] [⟨some 22,none,.mv (.t 0)⟩,⟨some 23,none,.call 82 [.t 22,.c (.flat (.string ⟨#[13,10]⟩)),.c (.flat (.string ⟨#[0]⟩))]⟩,⟨some 4,none,.asg (.t 23)⟩]) (.seq (.reg [4] [] [⟨some 24,none,.mv (.t 4)⟩,⟨some 25,none,.call 32 [.t 24,.c (.flat (.int .u8 13))]⟩,⟨some 26,none,.bin .lss (.t 25) (.c (.flat (.int .i64 0)))⟩,⟨some 27,none,.mv (.t 26)⟩,⟨some 28,some ⟨27,true⟩,.mv (.t 4)⟩,⟨some 29,some ⟨27,true⟩,.call 32 [.t 28,.c (.flat (.int .u8 10))]⟩,⟨some 30,some ⟨27,true⟩,.bin .lss (.t 29) (.c (.flat (.int .i64 0)))⟩,⟨some 31,none,.pick (.t 27) (.t 30) (.c (.flat (.bool false)))⟩,⟨some 32,none,.call 70 [.t 31,.c (.flat (.int .i64 7))]⟩]) (.seq (.reg [2] [] [⟨some 33,none,.mv (.t 4)⟩,⟨some 34,none,.call 82 [.t 33,.c (.flat (.string ⟨#[0]⟩)),.c (.flat (.string ⟨#[10]⟩))]⟩,⟨some 2,none,.asg (.t 34)⟩]) (.ret [2])))))),[]⟩
def zf2:CCode:=(.seq (.reg [0,6,7,8] [] [⟨some 8,none,.bin .lss (.t 7) (.t 6)⟩]) (.seq (.cond (.t 8) .skip (.exit 0 [0])) (.seq (.block 1 (.seq (.reg [0,3,6,7] [] [⟨some 9,none,.mv (.t 7)⟩,⟨some 3,none,.asg (.t 9)⟩]) (.seq (.reg [0,4,6,7] [] [⟨some 10,none,.mv (.t 0)⟩,⟨some 11,none,.mv (.t 3)⟩,⟨some 12,none,.idx (.t 10) (.t 11)⟩,⟨some 4,none,.asg (.t 12)⟩]) (.seq (.reg [0,6,7,33] [] [⟨some 13,none,.mv (.t 4)⟩,⟨some 14,none,.bin .lss (.t 13) (.c (.flat (.int .u8 48)))⟩,⟨some 15,none,.mv (.t 14)⟩,⟨some 16,some ⟨15,false⟩,.mv (.t 4)⟩,⟨some 17,some ⟨15,false⟩,.bin .gtr (.t 16) (.c (.flat (.int .u8 57)))⟩,⟨some 18,none,.pick (.t 15) (.c (.flat (.bool true))) (.t 17)⟩,⟨some 19,none,.mv (.t 18)⟩,⟨some 20,some ⟨19,true⟩,.mv (.t 4)⟩,⟨some 21,some ⟨19,true⟩,.bin .or (.t 20) (.c (.flat (.int .u8 32)))⟩,⟨some 22,some ⟨19,true⟩,.bin .lss (.t 21) (.c (.flat (.int .u8 97)))⟩,⟨some 23,some ⟨19,true⟩,.mv (.t 22)⟩,⟨some 24,some ⟨23,false⟩,.mv (.t 4)⟩,⟨some 25,some ⟨23,false⟩,.bin .or (.t 24) (.c (.flat (.int .u8 32)))⟩,⟨some 26,some ⟨23,false⟩,.bin .gtr (.t 25) (.c (.flat (.int .u8 122)))⟩,⟨some 27,some ⟨19,true⟩,.pick (.t 23) (.c (.flat (.bool true))) (.t 26)⟩,⟨some 28,none,.pick (.t 19) (.t 27) (.c (.flat (.bool false)))⟩,⟨some 29,none,.mv (.t 28)⟩,⟨some 30,some ⟨29,true⟩,.mv (.t 4)⟩,⟨some 31,some ⟨29,true⟩,.call 32 [.c (.flat (.string ⟨#[45,95,61,46]⟩)),.t 30]⟩,⟨some 32,some ⟨29,true⟩,.bin .lss (.t 31) (.c (.flat (.int .i64 0)))⟩,⟨some 33,none,.pick (.t 29) (.t 32) (.c (.flat (.bool false)))⟩]) (.cond (.t 33) (.seq (.reg [2] [] [⟨some 2,none,.asg (.c (.flat (.bool false)))⟩]) (.ret [2])) .skip))))) (.reg [0,6,7] [] [⟨some 34,none,.bin .add (.t 7) (.c (.flat (.int .i64 1)))⟩,⟨some 7,none,.mv (.t 34)⟩]))))
def zf3:CCode:=zf2
theorem zfp {cf:Nun.Callee} {m:Nat} {st:Nun.St}:evC cf m zf3 st=evC cf m zf2 st:=rfl
attribute [go_sem] zf2
def zqg:CFun:=⟨42,[.inl 2],(.seq (.reg [0] [] [⟨some 2,none,.asg (.c (.flat (.bool false)))⟩]) (.seq (.seq (.reg [0,6,7] [] [⟨some 5,none,.mv (.t 0)⟩,⟨some 6,none,.lenS (.t 5)⟩,⟨some 7,none,.mv (.c (.flat (.int .i64 0)))⟩]) (.block 0 (.loop [0,6,7] zf3))) (.seq (.reg [2] [] [⟨some 35,none,.mv (.t 0)⟩,⟨some 36,none,.bin .neq (.t 35) (.c (.flat (.string ⟨#[]⟩)))⟩,⟨some 37,none,.mv (.t 36)⟩,⟨some 38,some ⟨37,true⟩,.mv (.t 0)⟩,⟨some 39,some ⟨37,true⟩,.lenS (.t 38)⟩,⟨some 40,some ⟨37,true⟩,.bin .leq (.t 39) (.c (.flat (.int .i64 70)))⟩,⟨some 41,none,.pick (.t 37) (.t 40) (.c (.flat (.bool false)))⟩,⟨some 2,none,.asg (.t 41)⟩]) (.ret [2])))),[]⟩
def zqh:CFun:=⟨6,[.inl 4],(.seq (.reg [2,3] [] [⟨some 2,none,.box 9 1 (.t 0)⟩,⟨some 3,none,.box 9 1 (.t 1)⟩,⟨some 4,none,.asg (.c (.flat .nilFunc))⟩]) (.seq (.reg [4] [] [⟨some 5,none,.clos 131 [.t 3,.t 2]⟩,⟨some 4,none,.asg (.t 5)⟩]) (.ret [4]))),[]⟩
def ze4:CCode:=(.block 1 (.seq (.reg [0,4,5,7,8,9] [] [⟨some 23,none,.mv (.t 5)⟩,⟨some 24,none,.mv (.t 8)⟩,⟨some 25,none,.sliceS (.t 23) (.some (.t 24)) .none⟩,⟨some 26,none,.mv (.t 4)⟩,⟨some 27,none,.call 59 [.t 25,.t 26]⟩,⟨some 9,none,.asg (.t 27)⟩]) (.seq (.reg [0,4,5,7,8,9] [] [⟨some 28,none,.mv (.t 9)⟩,⟨some 29,none,.bin .geq (.t 28) (.c (.flat (.int .i64 0)))⟩,⟨some 30,none,.call 70 [.t 29,.c (.flat (.int .i64 7))]⟩]) (.seq (.reg [0,4,5,7,8] [] [⟨some 31,none,.mv (.t 8)⟩,⟨some 32,none,.mv (.t 9)⟩,⟨some 33,none,.bin .add (.t 31) (.t 32)⟩,⟨some 8,none,.asg (.t 33)⟩]) (.seq (.reg [0,4,5,7,8,10] [] [⟨some 34,none,.mv (.t 5)⟩,⟨some 35,none,.mv (.t 8)⟩,⟨some 36,none,.mv (.t 4)⟩,⟨some 37,none,.lenS (.t 36)⟩,⟨some 38,none,.bin .add (.t 35) (.t 37)⟩,⟨some 39,none,.sliceS (.t 34) (.some (.t 38)) .none⟩,⟨some 10,none,.asg (.t 39)⟩]) (.seq (.seq (.reg [0,4,5,7,8,10,41] [] [⟨some 40,none,.mv (.t 10)⟩,⟨some 41,none,.call 74 [.t 40,.c (.flat (.string ⟨#[45,45,13,10]⟩))]⟩]) (.cond (.t 41) (.seq (.reg [0,5,7,8] [] [⟨some 42,none,.mv (.t 10)⟩,⟨some 43,none,.bin .eql (.t 42) (.c (.flat (.string ⟨#[45,45,13,10]⟩)))⟩,⟨some 44,none,.call 70 [.t 43,.c (.flat (.int .i64 7))]⟩]) (.seq (.reg [] [] [⟨some 45,none,.mv (.t 0)⟩,⟨some 46,none,.mv (.t 5)⟩,⟨some 47,none,.mv (.t 7)⟩,⟨some 48,none,.mv (.t 8)⟩,⟨some 49,none,.sliceS (.t 46) (.some (.t 47)) (.some (.t 48))⟩,⟨some 50,none,.callv (.t 45) [.t 49]⟩]) (.ret []))) .skip)) (.seq (.seq (.reg [0,4,5,7,8,53] [] [⟨some 51,none,.mv (.t 10)⟩,⟨some 52,none,.call 74 [.t 51,.c (.flat (.string ⟨#[13,10]⟩))]⟩,⟨some 53,none,.un .not (.t 52)⟩]) (.cond (.t 53) (.seq (.reg [0,4,5,7,8] [] [⟨some 54,none,.mv (.t 8)⟩,⟨some 55,none,.bin .add (.t 54) (.c (.flat (.int .i64 1)))⟩,⟨some 8,none,.asg (.t 55)⟩]) (.exit 1 [0,4,5,7,8])) .skip)) (.seq (.seq (.reg [0,4,5,8,62] [] [⟨some 56,none,.mv (.t 0)⟩,⟨some 57,none,.mv (.t 5)⟩,⟨some 58,none,.mv (.t 7)⟩,⟨some 59,none,.mv (.t 8)⟩,⟨some 60,none,.sliceS (.t 57) (.some (.t 58)) (.some (.t 59))⟩,⟨some 61,none,.callv (.t 56) [.t 60]⟩,⟨some 62,none,.un .not (.t 61)⟩]) (.cond (.t 62) (.ret []) .skip)) (.seq (.reg [0,4,5,7] [] [⟨some 63,none,.mv (.t 8)⟩,⟨some 64,none,.mv (.t 4)⟩,⟨some 65,none,.lenS (.t 64)⟩,⟨some 66,none,.bin .add (.t 63) (.t 65)⟩,⟨some 67,none,.bin .add (.t 66) (.c (.flat (.int .i64 2)))⟩,⟨some 7,none,.asg (.t 67)⟩]) (.reg [0,4,5,7,8] [] [⟨some 68,none,.mv (.t 7)⟩,⟨some 8,none,.asg (.t 68)⟩]))))))))))
def zbg:CCode:=ze4
theorem zcj {cf:Nun.Callee} {m:Nat} {st:Nun.St}:evC cf m zbg st=evC cf m ze4 st:=rfl
attribute [go_sem] ze4
def znw:CFun:=⟨69,[],(.seq (.reg [0,2,4] [] [⟨some 11,none,.load false 1 (.t 1)⟩,⟨some 12,none,.bin .add (.c (.flat (.string ⟨#[13,10,45,45]⟩))) (.t 11)⟩,⟨some 4,none,.asg (.t 12)⟩]) (.seq (.reg [0,4,5,6] [] [⟨some 14,none,.load false 1 (.t 2)⟩,⟨some 15,none,.bin .add (.c (.flat (.string ⟨#[13,10]⟩))) (.t 14)⟩,⟨some 16,none,.mv (.t 4)⟩,⟨some 17,none,.bin .add (.t 16) (.c (.flat (.string ⟨#[13,10]⟩)))⟩,⟨some 18,none,.call 132 [.t 15,.t 17]⟩,⟨some 13,none,.mv (.t 18)⟩,⟨some 19,none,.ext (.t 13) 0⟩,⟨some 20,none,.ext (.t 13) 1⟩,⟨some 5,none,.asg (.t 19)⟩,⟨some 6,none,.asg (.t 20)⟩]) (.seq (.reg [0,4,5] [] [⟨some 21,none,.mv (.t 6)⟩,⟨some 22,none,.call 70 [.t 21,.c (.flat (.int .i64 7))]⟩]) (.seq (.reg [0,4,5,7] [] [⟨some 7,none,.asg (.c (.flat (.int .i64 0)))⟩]) (.seq (.reg [0,4,5,7,8] [] [⟨some 8,none,.asg (.c (.flat (.int .i64 0)))⟩]) (.block 0 (.loop [0,4,5,7,8] zbg))))))),[]⟩
def zj9:CCode:=(.seq (.reg [1,6,7,10,11,12,13] [] [⟨some 13,none,.bin .lss (.t 12) (.t 11)⟩]) (.seq (.cond (.t 13) .skip (.exit 0 [6,7])) (.seq (.block 1 (.seq (.reg [1,6,7,9,10,11,12] [] [⟨some 14,none,.iadr 2 (.t 10) (.t 12)⟩,⟨some 15,none,.load true 2 (.t 14)⟩,⟨some 9,none,.alloc 80 [.flat (.string ⟨#[]⟩),.flat (.string ⟨#[]⟩)]⟩,⟨none,none,.store 2 (.t 9) (.t 15)⟩]) (.seq (.seq (.reg [1,6,7,9,10,11,12,20] [] [⟨some 16,none,.fadr 0 (.t 9)⟩,⟨some 17,none,.load false 1 (.t 16)⟩,⟨some 18,none,.mv (.t 1)⟩,⟨some 19,none,.call 126 [.t 17,.t 18]⟩,⟨some 20,none,.un .not (.t 19)⟩]) (.cond (.t 20) (.exit 1 [1,6,7,10,11,12]) .skip)) (.seq (.seq (.reg [1,6,7,9,10,11,12,22] [] [⟨some 21,none,.mv (.t 7)⟩,⟨some 22,none,.bin .eql (.t 21) (.c (.flat (.int .i64 0)))⟩]) (.cond (.t 22) (.reg [1,6,7,10,11,12] [] [⟨some 23,none,.fadr 1 (.t 9)⟩,⟨some 24,none,.load false 1 (.t 23)⟩,⟨some 6,none,.asg (.t 24)⟩]) .skip)) (.reg [1,6,7,10,11,12] [] [⟨some 25,none,.mv (.t 7)⟩,⟨some 26,none,.bin .add (.t 25) (.c (.flat (.int .i64 1)))⟩,⟨some 7,none,.asg (.t 26)⟩]))))) (.reg [1,6,7,10,11,12] [] [⟨some 27,none,.bin .add (.t 12) (.c (.flat (.int .i64 1)))⟩,⟨some 12,none,.mv (.t 27)⟩]))))
def zka:CCode:=zj9
theorem zg6 {cf:Nun.Callee} {m:Nat} {st:Nun.St}:evC cf m zka st=evC cf m zj9 st:=rfl
attribute [go_sem] zj9
def z1u:CFun:=⟨30,[.inl 4,.inl 5],(.seq (.reg [0,1] [] [⟨some 4,none,.asg (.c (.flat (.string ⟨#[]⟩)))⟩,⟨some 5,none,.asg (.c (.flat (.int .i64 0)))⟩]) (.seq (.reg [0,1,6,7] [] [⟨some 6,none,.asg (.c (.flat (.string ⟨#[]⟩)))⟩,⟨some 7,none,.asg (.c (.flat (.int .i64 0)))⟩]) (.seq (.seq (.reg [1,6,7,10,11,12] [] [⟨some 10,none,.mv (.t 0)⟩,⟨some 11,none,.len (.t 10)⟩,⟨some 12,none,.mv (.c (.flat (.int .i64 0)))⟩]) (.block 0 (.loop [1,6,7,10,11,12] zka))) (.seq (.reg [4,5] [] [⟨some 28,none,.mv (.t 6)⟩,⟨some 29,none,.mv (.t 7)⟩,⟨some 4,none,.asg (.t 28)⟩,⟨some 5,none,.asg (.t 29)⟩]) (.ret [4,5]))))),[]⟩
def zi7:CCode:=(.seq (.seq (.reg [0,1,5,6,15] [] [⟨some 12,none,.mv (.t 6)⟩,⟨some 13,none,.mv (.t 1)⟩,⟨some 14,none,.len (.t 13)⟩,⟨some 15,none,.bin .lss (.t 12) (.t 14)⟩]) (.cond (.t 15) .skip (.exit 0 [0,5]))) (.seq (.block 1 (.seq (.seq (.reg [0,1,5,6,19] [] [⟨some 18,none,.mv (.t 6)⟩,⟨some 19,none,.bin .gtr (.t 18) (.c (.flat (.int .i64 0)))⟩]) (.cond (.t 19) (.reg [0,1,5,6] [] [⟨some 20,none,.mv (.t 5)⟩,⟨some 21,none,.bin .add (.t 20) (.c (.flat (.string ⟨#[13,10,45,45]⟩)))⟩,⟨some 22,none,.mv (.t 0)⟩,⟨some 23,none,.bin .add (.t 21) (.t 22)⟩,⟨some 5,none,.asg (.t 23)⟩]) .skip)) (.reg [0,1,5,6] [] [⟨some 24,none,.mv (.t 5)⟩,⟨some 25,none,.bin .add (.t 24) (.c (.flat (.string ⟨#[13,10]⟩)))⟩,⟨some 26,none,.mv (.t 1)⟩,⟨some 27,none,.mv (.t 6)⟩,⟨some 28,none,.iadr 1 (.t 26) (.t 27)⟩,⟨some 29,none,.load false 1 (.t 28)⟩,⟨some 30,none,.bin .add (.t 25) (.t 29)⟩,⟨some 5,none,.asg (.t 30)⟩]))) (.reg [0,1,5,6] [] [⟨some 16,none,.mv (.t 6)⟩,⟨some 17,none,.bin .add (.t 16) (.c (.flat (.int .i64 1)))⟩,⟨some 6,none,.asg (.t 17)⟩])))
def zi8:CCode:=zi7
theorem zid {cf:Nun.Callee} {m:Nat} {st:Nun.St}:evC cf m zi8 st=evC cf m zi7 st:=rfl
attribute [go_sem] zi7
def zxx:CFun:=⟨36,[.inl 4],(.seq (.reg [0,1] [] [⟨some 4,none,.asg (.c (.flat (.string ⟨#[]⟩)))⟩]) (.seq (.reg [0,1,5] [] [⟨some 7,none,.mv (.t 0)⟩,⟨some 8,none,.bin .add (.c (.flat (.string ⟨#[67,111,110,116,101,110,116,45,84,121,112,101,58,32,109,117,108,116,105,112,97,114,116,47,109,105,120,101,100,59,32,98,111,117,110,100,97,114,121,61,34]⟩))) (.t 7)⟩,⟨some 9,none,.bin .add (.t 8) (.c (.flat (.string ⟨#[34,13,10,13,10,45,45]⟩)))⟩,⟨some 10,none,.mv (.t 0)⟩,⟨some 11,none,.bin .add (.t 9) (.t 10)⟩,⟨some 5,none,.asg (.t 11)⟩]) (.seq (.seq (.reg [0,1,5,6] [] [⟨some 6,none,.asg (.c (.flat (.int .i64 0)))⟩]) (.block 0 (.loop [0,1,5,6] zi8))) (.seq (.reg [4] [] [⟨some 31,none,.mv (.t 5)⟩,⟨some 32,none,.bin .add (.t 31) (.c (.flat (.string ⟨#[13,10,45,45]⟩)))⟩,⟨some 33,none,.mv (.t 0)⟩,⟨some 34,none,.bin .add (.t 32) (.t 33)⟩,⟨some 35,none,.bin .add (.t 34) (.c (.flat (.string ⟨#[45,45,13,10]⟩)))⟩,⟨some 4,none,.asg (.t 35)⟩]) (.ret [4]))))),[]⟩
def zxy:CFun:=⟨15,[.inr ⟨2,⟨true,4⟩⟩,.inl 3],(.seq (.reg [0,2] [] [⟨some 2,none,.alloc 36 [.flat (.slice .none 0 0),.flat (.string ⟨#[]⟩),.flat (.string ⟨#[]⟩),.flat (.slice .none 0 0)]⟩,⟨some 3,none,.asg (.c (.flat (.int .i64 0)))⟩]) (.seq (.reg [2,4,6] [] [⟨some 8,none,.mv (.t 0)⟩,⟨some 9,none,.call 37 [.t 8,.c (.flat (.int .i64 0)),.c (.flat (.int .i64 0))]⟩,⟨some 7,none,.mv (.t 9)⟩,⟨some 10,none,.ext (.t 7) 0⟩,⟨some 11,none,.ext (.t 7) 1⟩,⟨some 12,none,.ext (.t 7) 2⟩,⟨some 4,none,.alloc 36 [.flat (.slice .none 0 0),.flat (.string ⟨#[]⟩),.flat (.string ⟨#[]⟩),.flat (.slice .none 0 0)]⟩,⟨none,none,.store 4 (.t 4) (.t 10)⟩,⟨some 5,none,.asg (.t 11)⟩,⟨some 6,none,.asg (.t 12)⟩]) (.seq (.reg [2,3] [] [⟨some 13,none,.load true 4 (.t 4)⟩,⟨some 14,none,.mv (.t 6)⟩,⟨none,none,.store 4 (.t 2) (.t 13)⟩,⟨some 3,none,.asg (.t 14)⟩]) (.ret [2,3])))),[]⟩
def zkb:CCode:=(.seq (.seq (.reg [0,1,2,6,9,11,15,16,17,18,20,22,83] [] [⟨some 80,none,.mv (.t 22)⟩,⟨some 81,none,.mv (.t 20)⟩,⟨some 82,none,.len (.t 81)⟩,⟨some 83,none,.bin .lss (.t 80) (.t 82)⟩]) (.cond (.t 83) .skip (.exit 0 [0,1,2,6,9,11,15,16,17,18]))) (.seq (.block 1 (.seq (.reg [0,1,2,6,9,11,15,16,17,18,20,22,92] [] [⟨some 86,none,.mv (.t 20)⟩,⟨some 87,none,.mv (.t 22)⟩,⟨some 88,none,.iadr 2 (.t 86) (.t 87)⟩,⟨some 89,none,.fadr 0 (.t 88)⟩,⟨some 90,none,.load false 1 (.t 89)⟩,⟨some 91,none,.call 64 [.t 90]⟩,⟨some 92,none,.bin .eql (.t 91) (.c (.flat (.string ⟨#[98,111,117,110,100,97,114,121]⟩)))⟩]) (.cond (.t 92) (.reg [0,1,2,6,9,11,15,16,17,18,20,22] [] [⟨some 93,none,.mv (.t 20)⟩,⟨some 94,none,.mv (.t 22)⟩,⟨some 95,none,.iadr 2 (.t 93) (.t 94)⟩,⟨some 96,none,.fadr 1 (.t 95)⟩,⟨some 97,none,.load false 1 (.t 96)⟩,⟨some 18,none,.asg (.t 97)⟩]) .skip))) (.reg [0,1,2,6,9,11,15,16,17,18,20,22] [] [⟨some 84,none,.mv (.t 22)⟩,⟨some 85,none,.bin .add (.t 84) (.c (.flat (.int .i64 1)))⟩,⟨some 22,none,.asg (.t 85)⟩])))
def zh2:CCode:=zkb
theorem zi9 {cf:Nun.Callee} {m:Nat} {st:Nun.St}:evC cf m zh2 st=evC cf m zkb st:=rfl
attribute [go_sem] zkb
def zkc:CCode:=(.seq (.seq (.reg [1,2,6,9,17,26,28,163] [] [⟨some 160,none,.mv (.t 28)⟩,⟨some 161,none,.mv (.t 26)⟩,⟨some 162,none,.len (.t 161)⟩,⟨some 163,none,.bin .lss (.t 160) (.t 162)⟩]) (.cond (.t 163) .skip (.exit 2 [2,6,17]))) (.seq (.block 3 (.seq (.reg [1,2,6,9,17,26,28,29,30,31] [] [⟨some 167,none,.mv (.t 26)⟩,⟨some 168,none,.mv (.t 28)⟩,⟨some 169,none,.iadr 1 (.t 167) (.t 168)⟩,⟨some 170,none,.load false 1 (.t 169)⟩,⟨some 171,none,.mv (.t 1)⟩,⟨some 172,none,.bin .add (.t 171) (.c (.flat (.int .i64 1)))⟩,⟨some 173,none,.mv (.t 2)⟩,⟨some 174,none,.call 37 [.t 170,.t 172,.t 173]⟩,⟨some 166,none,.mv (.t 174)⟩,⟨some 175,none,.ext (.t 166) 0⟩,⟨some 176,none,.ext (.t 166) 1⟩,⟨some 177,none,.ext (.t 166) 2⟩,⟨some 29,none,.alloc 36 [.flat (.slice .none 0 0),.flat (.string ⟨#[]⟩),.flat (.string ⟨#[]⟩),.flat (.slice .none 0 0)]⟩,⟨none,none,.store 4 (.t 29) (.t 175)⟩,⟨some 30,none,.asg (.t 176)⟩,⟨some 31,none,.asg (.t 177)⟩]) (.seq (.seq (.reg [1,2,6,9,17,26,28,29,30,31,179] [] [⟨some 178,none,.mv (.t 31)⟩,⟨some 179,none,.bin .neq (.t 178) (.c (.flat (.int .i64 0)))⟩]) (.cond (.t 179) (.seq (.reg [6,7,8] [] [⟨some 180,none,.load true 4 (.t 9)⟩,⟨some 181,none,.mv (.t 2)⟩,⟨some 182,none,.mv (.t 31)⟩,⟨none,none,.store 4 (.t 6) (.t 180)⟩,⟨some 7,none,.asg (.t 181)⟩,⟨some 8,none,.asg (.t 182)⟩]) (.ret [6,7,8])) .skip)) (.seq (.reg [1,6,9,17,26,28,30] [] [⟨some 183,none,.fadr 3 (.t 17)⟩,⟨some 184,none,.loadA (.t 183)⟩,⟨some 185,none,.load true 4 (.t 29)⟩,⟨some 186,none,.mksl false 1 4 [.flat (.slice .none 0 0),.flat (.string ⟨#[]⟩),.flat (.string ⟨#[]⟩),.flat (.slice .none 0 0)] [⟨0,⟨4,.t 185⟩⟩]⟩,⟨some 187,none,.append false 4 (.t 184) (.t 186)⟩,⟨some 188,none,.fadr 3 (.t 17)⟩,⟨none,none,.store 1 (.t 188) (.t 187)⟩]) (.reg [1,2,6,9,17,26,28] [] [⟨some 189,none,.mv (.t 30)⟩,⟨some 2,none,.asg (.t 189)⟩]))))) (.reg [1,2,6,9,17,26,28] [] [⟨some 164,none,.mv (.t 28)⟩,⟨some 165,none,.bin .add (.t 164) (.c (.flat (.int .i64 1)))⟩,⟨some 28,none,.asg (.t 165)⟩])))
def zdo:CCode:=zkc
theorem zja {cf:Nun.Callee} {m:Nat} {st:Nun.St}:evC cf m zdo st=evC cf m zkc st:=rfl
attribute [go_sem] zkc
def z1v:CFun:=⟨192,[.inr ⟨6,⟨true,4⟩⟩,.inl 7,.inl 8],(.seq (.reg [0,1,2,6] [] [⟨some 6,none,.alloc 36 [.flat (.slice .none 0 0),.flat (.string ⟨#[]⟩),.flat (.string ⟨#[]⟩),.flat (.slice .none 0 0)]⟩,⟨some 7,none,.asg (.c (.flat (.int .i64 0)))⟩,⟨some 8,none,.asg (.c (.flat (.int .i64 0)))⟩]) (.seq (.reg [0,1,2,6,9] [] [⟨some 32,none,.build [.flat (.slice .none 0 0),.flat (.string ⟨#[]⟩),.flat (.string ⟨#[]⟩),.flat (.slice .none 0 0)] []⟩,⟨some 9,none,.alloc 36 [.flat (.slice .none 0 0),.flat (.string ⟨#[]⟩),.flat (.string ⟨#[]⟩),.flat (.slice .none 0 0)]⟩,⟨none,none,.store 4 (.t 9) (.t 32)⟩]) (.seq (.reg [0,1,2,6,9,10,11,12] [] [⟨some 34,none,.mv (.t 0)⟩,⟨some 35,none,.call 61 [.t 34]⟩,⟨some 33,none,.mv (.t 35)⟩,⟨some 36,none,.ext (.t 33) 0⟩,⟨some 37,none,.ext (.t 33) 1⟩,⟨some 38,none,.ext (.t 33) 2⟩,⟨some 10,none,.asg (.t 36)⟩,⟨some 11,none,.asg (.t 37)⟩,⟨some 12,none,.asg (.t 38)⟩]) (.seq (.seq (.reg [0,1,2,6,9,10,11,12,40] [] [⟨some 39,none,.mv (.t 12)⟩,⟨some 40,none,.bin .neq (.t 39) (.c (.flat (.int .i64 0)))⟩]) (.cond (.t 40) (.seq (.reg [6,7,8] [] [⟨some 41,none,.load true 4 (.t 9)⟩,⟨some 42,none,.mv (.t 2)⟩,⟨some 43,none,.mv (.t 12)⟩,⟨none,none,.store 4 (.t 6) (.t 41)⟩,⟨some 7,none,.asg (.t 42)⟩,⟨some 8,none,.asg (.t 43)⟩]) (.ret [6,7,8])) .skip)) (.seq (.reg [0,1,2,6,9,10,11,13,14] [] [⟨some 45,none,.mv (.t 10)⟩,⟨some 46,none,.call 62 [.t 45,.c (.flat (.string ⟨#[67,111,110,116,101,110,116,45,84,121,112,101]⟩))]⟩,⟨some 44,none,.mv (.t 46)⟩,⟨some 47,none,.ext (.t 44) 0⟩,⟨some 48,none,.ext (.t 44) 1⟩,⟨some 13,none,.asg (.t 47)⟩,⟨some 14,none,.asg (.t 48)⟩]) (.seq (.reg [0,1,2,6,9,10,11,13,14,15,16] [] [⟨some 50,none,.mv (.t 10)⟩,⟨some 51,none,.call 62 [.t 50,.c (.flat (.string ⟨#[67,111,110,116,101,110,116,45,84,114,97,110,115,102,101,114,45,69,110,99,111,100,105,110,103]⟩))]⟩,⟨some 49,none,.mv (.t 51)⟩,⟨some 52,none,.ext (.t 49) 0⟩,⟨some 53,none,.ext (.t 49) 1⟩,⟨some 15,none,.asg (.t 52)⟩,⟨some 16,none,.asg (.t 53)⟩]) (.seq (.seq (.reg [0,1,2,6,9,10,11,13,14,15,16,59] [] [⟨some 54,none,.mv (.t 14)⟩,⟨some 55,none,.bin .gtr (.t 54) (.c (.flat (.int .i64 1)))⟩,⟨some 56,none,.mv (.t 55)⟩,⟨some 57,some ⟨56,false⟩,.mv (.t 16)⟩,⟨some 58,some ⟨56,false⟩,.bin .gtr (.t 57) (.c (.flat (.int .i64 1)))⟩,⟨some 59,none,.pick (.t 56) (.c (.flat (.bool true))) (.t 58)⟩]) (.cond (.t 59) (.seq (.reg [6,7,8] [] [⟨some 60,none,.load true 4 (.t 9)⟩,⟨some 61,none,.mv (.t 2)⟩,⟨none,none,.store 4 (.t 6) (.t 60)⟩,⟨some 7,none,.asg (.t 61)⟩,⟨some 8,none,.asg (.c (.flat (.int .i64 9)))⟩]) (.ret [6,7,8])) .skip)) (.seq (.reg [0,1,2,6,9,11,13,14,15,16,17] [] [⟨some 62,none,.mv (.t 10)⟩,⟨some 63,none,.build [.flat (.slice .none 0 0),.flat (.string ⟨#[]⟩),.flat (.string ⟨#[]⟩),.flat (.slice .none 0 0)] [⟨0,⟨1,.t 62⟩⟩,⟨1,⟨1,.c (.flat (.string ⟨#[116,101,120,116,47,112,108,97,105,110]⟩))⟩⟩]⟩,⟨some 17,none,.alloc 36 [.flat (.slice .none 0 0),.flat (.string ⟨#[]⟩),.flat (.string ⟨#[]⟩),.flat (.slice .none 0 0)]⟩,⟨none,none,.store 4 (.t 17) (.t 63)⟩]) (.seq (.reg [0,1,2,6,9,11,13,14,15,16,17,18] [] [⟨some 18,none,.asg (.c (.flat (.string ⟨#[]⟩)))⟩]) (.seq (.seq (.reg [0,1,2,6,9,11,13,15,16,17,18,65] [] [⟨some 64,none,.mv (.t 14)⟩,⟨some 65,none,.bin .eql (.t 64) (.c (.flat (.int .i64 1)))⟩]) (.cond (.t 65) (.seq (.reg [0,1,2,6,9,11,15,16,17,18,19,20,21] [] [⟨some 67,none,.mv (.t 13)⟩,⟨some 68,none,.call 63 [.t 67]⟩,⟨some 66,none,.mv (.t 68)⟩,⟨some 69,none,.ext (.t 66) 0⟩,⟨some 70,none,.ext (.t 66) 1⟩,⟨some 71,none,.ext (.t 66) 2⟩,⟨some 19,none,.asg (.t 69)⟩,⟨some 20,none,.asg (.t 70)⟩,⟨some 21,none,.asg (.t 71)⟩]) (.seq (.seq (.reg [0,1,2,6,9,11,15,16,17,18,19,20,21,73] [] [⟨some 72,none,.mv (.t 21)⟩,⟨some 73,none,.bin .neq (.t 72) (.c (.flat (.int .i64 0)))⟩]) (.cond (.t 73) (.seq (.reg [6,7,8] [] [⟨some 74,none,.load true 4 (.t 9)⟩,⟨some 75,none,.mv (.t 2)⟩,⟨some 76,none,.mv (.t 21)⟩,⟨none,none,.store 4 (.t 6) (.t 74)⟩,⟨some 7,none,.asg (.t 75)⟩,⟨some 8,none,.asg (.t 76)⟩]) (.ret [6,7,8])) .skip)) (.seq (.reg [0,1,2,6,9,11,15,16,17,18,20] [] [⟨some 77,none,.mv (.t 19)⟩,⟨some 78,none,.call 64 [.t 77]⟩,⟨some 79,none,.fadr 1 (.t 17)⟩,⟨none,none,.store 1 (.t 79) (.t 78)⟩]) (.seq (.reg [0,1,2,6,9,11,15,16,17,18,20,22] [] [⟨some 22,none,.asg (.c (.flat (.int .i64 0)))⟩]) (.block 0 (.loop [0,1,2,6,9,11,15,16,17,18,20,22] zh2)))))) .skip)) (.seq (.seq (.reg [0,1,2,6,9,11,15,16,17,18,101] [] [⟨some 98,none,.fadr 1 (.t 17)⟩,⟨some 99,none,.load false 1 (.t 98)⟩,⟨some 100,none,.call 65 [.t 99]⟩,⟨some 101,none,.un .not (.t 100)⟩]) (.cond (.t 101) (.seq (.reg [6,7,8] [] [⟨some 102,none,.load true 4 (.t 9)⟩,⟨some 103,none,.mv (.t 2)⟩,⟨none,none,.store 4 (.t 6) (.t 102)⟩,⟨some 7,none,.asg (.t 103)⟩,⟨some 8,none,.asg (.c (.flat (.int .i64 7)))⟩]) (.ret [6,7,8])) .skip)) (.seq (.reg [0,1,2,6,9,11,15,16,17,18] [] [⟨some 104,none,.mv (.t 15)⟩,⟨some 105,none,.call 64 [.t 104]⟩,⟨some 15,none,.asg (.t 105)⟩]) (.seq (.seq (.reg [0,1,2,6,9,11,15,17,18,107] [] [⟨some 106,none,.mv (.t 16)⟩,⟨some 107,none,.bin .eql (.t 106) (.c (.flat (.int .i64 0)))⟩]) (.cond (.t 107) (.reg [0,1,2,6,9,11,15,17,18] [] [⟨some 15,none,.asg (.c (.flat (.string ⟨#[55,98,105,116]⟩)))⟩]) .skip)) (.seq (.reg [1,2,6,9,15,17,18,23] [] [⟨some 108,none,.mv (.t 0)⟩,⟨some 109,none,.mv (.t 11)⟩,⟨some 110,none,.sliceS (.t 108) (.some (.t 109)) .none⟩,⟨some 23,none,.asg (.t 110)⟩]) (.seq (.seq (.reg [1,2,6,9,15,17,18,23,114] [] [⟨some 111,none,.fadr 1 (.t 17)⟩,⟨some 112,none,.load false 1 (.t 111)⟩,⟨some 113,none,.call 60 [.t 112,.c (.flat (.string ⟨#[109,117,108,116,105,112,97,114,116,47]⟩)),.c (.flat (.int .i64 0))]⟩,⟨some 114,none,.un .not (.t 113)⟩]) (.cond (.t 114) (.seq (.reg [2,6,9,17,24,25] [] [⟨some 116,none,.mv (.t 23)⟩,⟨some 117,none,.mv (.t 15)⟩,⟨some 118,none,.call 66 [.t 116,.t 117]⟩,⟨some 115,none,.mv (.t 118)⟩,⟨some 119,none,.ext (.t 115) 0⟩,⟨some 120,none,.ext (.t 115) 1⟩,⟨some 24,none,.asg (.t 119)⟩,⟨some 25,none,.asg (.t 120)⟩]) (.seq (.seq (.reg [2,6,9,17,24,122] [] [⟨some 121,none,.mv (.t 25)⟩,⟨some 122,none,.un .not (.t 121)⟩]) (.cond (.t 122) (.seq (.reg [6,7,8] [] [⟨some 123,none,.load true 4 (.t 9)⟩,⟨some 124,none,.mv (.t 2)⟩,⟨none,none,.store 4 (.t 6) (.t 123)⟩,⟨some 7,none,.asg (.t 124)⟩,⟨some 8,none,.asg (.c (.flat (.int .i64 7)))⟩]) (.ret [6,7,8])) .skip)) (.seq (.reg [2,6,17] [] [⟨some 125,none,.mv (.t 24)⟩,⟨some 126,none,.fadr 2 (.t 17)⟩,⟨none,none,.store 1 (.t 126) (.t 125)⟩]) (.seq (.reg [6,7,8] [] [⟨some 127,none,.load true 4 (.t 17)⟩,⟨some 128,none,.mv (.t 2)⟩,⟨none,none,.store 4 (.t 6) (.t 127)⟩,⟨some 7,none,.asg (.t 128)⟩,⟨some 8,none,.asg (.c (.flat (.int .i64 0)))⟩]) (.ret [6,7,8]))))) .skip)) (.seq (.reg [1,2,6,9,15,17,18,26,27] [] [⟨some 130,none,.mv (.t 23)⟩,⟨some 131,none,.mv (.t 18)⟩,⟨some 132,none,.call 67 [.t 130,.t 131]⟩,⟨some 129,none,.mv (.t 132)⟩,⟨some 133,none,.ext (.t 129) 0⟩,⟨some 134,none,.ext (.t 129) 1⟩,⟨some 26,none,.asg (.t 133)⟩,⟨some 27,none,.asg (.t 134)⟩]) (.seq (.seq (.reg [1,2,6,9,17,26,145] [] [⟨some 135,none,.mv (.t 15)⟩,⟨some 136,none,.bin .neq (.t 135) (.c (.flat (.string ⟨#[55,98,105,116]⟩)))⟩,⟨some 137,none,.mv (.t 136)⟩,⟨some 138,some ⟨137,false⟩,.mv (.t 18)⟩,⟨some 139,some ⟨137,false⟩,.call 68 [.t 138]⟩,⟨some 140,some ⟨137,false⟩,.un .not (.t 139)⟩,⟨some 141,none,.pick (.t 137) (.c (.flat (.bool true))) (.t 140)⟩,⟨some 142,none,.mv (.t 141)⟩,⟨some 143,some ⟨142,false⟩,.mv (.t 27)⟩,⟨some 144,some ⟨142,false⟩,.un .not (.t 143)⟩,⟨some 145,none,.pick (.t 142) (.c (.flat (.bool true))) (.t 144)⟩]) (.cond (.t 145) (.seq (.reg [6,7,8] [] [⟨some 146,none,.load true 4 (.t 9)⟩,⟨some 147,none,.mv (.t 2)⟩,⟨none,none,.store 4 (.t 6) (.t 146)⟩,⟨some 7,none,.asg (.t 147)⟩,⟨some 8,none,.asg (.c (.flat (.int .i64 7)))⟩]) (.ret [6,7,8])) .skip)) (.seq (.seq (.reg [1,2,6,9,17,26,149] [] [⟨some 148,none,.mv (.t 1)⟩,⟨some 149,none,.bin .geq (.t 148) (.c (.flat (.int .i64 4)))⟩]) (.cond (.t 149) (.seq (.reg [6,7,8] [] [⟨some 150,none,.load true 4 (.t 9)⟩,⟨some 151,none,.mv (.t 2)⟩,⟨none,none,.store 4 (.t 6) (.t 150)⟩,⟨some 7,none,.asg (.t 151)⟩,⟨some 8,none,.asg (.c (.flat (.int .i64 8)))⟩]) (.ret [6,7,8])) .skip)) (.seq (.reg [1,2,6,9,17,26] [] [⟨some 152,none,.mv (.t 2)⟩,⟨some 153,none,.mv (.t 26)⟩,⟨some 154,none,.len (.t 153)⟩,⟨some 155,none,.bin .add (.t 152) (.t 154)⟩,⟨some 2,none,.asg (.t 155)⟩]) (.seq (.seq (.reg [1,2,6,9,17,26,157] [] [⟨some 156,none,.mv (.t 2)⟩,⟨some 157,none,.bin .gtr (.t 156) (.c (.flat (.int .i64 64)))⟩]) (.cond (.t 157) (.seq (.reg [6,7,8] [] [⟨some 158,none,.load true 4 (.t 9)⟩,⟨some 159,none,.mv (.t 2)⟩,⟨none,none,.store 4 (.t 6) (.t 158)⟩,⟨some 7,none,.asg (.t 159)⟩,⟨some 8,none,.asg (.c (.flat (.int .i64 5)))⟩]) (.ret [6,7,8])) .skip)) (.seq (.seq (.reg [1,2,6,9,17,26,28] [] [⟨some 28,none,.asg (.c (.flat (.int .i64 0)))⟩]) (.block 2 (.loop [1,2,6,9,17,26,28] zdo))) (.seq (.reg [6,7,8] [] [⟨some 190,none,.load true 4 (.t 17)⟩,⟨some 191,none,.mv (.t 2)⟩,⟨none,none,.store 4 (.t 6) (.t 190)⟩,⟨some 7,none,.asg (.t 191)⟩,⟨some 8,none,.asg (.c (.flat (.int .i64 0)))⟩]) (.ret [6,7,8]))))))))))))))))))))))),[]⟩
def z1w:CFun:=⟨36,[.inl 4,.inl 5],(.seq (.reg [0,1] [] [⟨some 4,none,.asg (.c (.flat (.string ⟨#[]⟩)))⟩,⟨some 5,none,.asg (.c (.flat (.bool false)))⟩]) (.seq (.seq (.reg [0,1,11] [] [⟨some 10,none,.mv (.t 1)⟩,⟨some 11,none,.bin .eql (.t 10) (.c (.flat (.string ⟨#[55,98,105,116]⟩)))⟩]) (.cond (.t 11) (.seq (.reg [4,5] [] [⟨some 12,none,.mv (.t 0)⟩,⟨some 13,none,.call 118 [.t 12]⟩,⟨some 14,none,.ext (.t 13) 0⟩,⟨some 15,none,.ext (.t 13) 1⟩,⟨some 4,none,.asg (.t 14)⟩,⟨some 5,none,.asg (.t 15)⟩]) (.ret [4,5])) .skip)) (.seq (.seq (.reg [0,1,17] [] [⟨some 16,none,.mv (.t 1)⟩,⟨some 17,none,.bin .eql (.t 16) (.c (.flat (.string ⟨#[113,117,111,116,101,100,45,112,114,105,110,116,97,98,108,101]⟩)))⟩]) (.cond (.t 17) (.seq (.reg [6,7] [] [⟨some 19,none,.mv (.t 0)⟩,⟨some 20,none,.call 119 [.t 19]⟩,⟨some 18,none,.mv (.t 20)⟩,⟨some 21,none,.ext (.t 18) 0⟩,⟨some 22,none,.ext (.t 18) 1⟩,⟨some 6,none,.asg (.t 21)⟩,⟨some 7,none,.asg (.t 22)⟩]) (.seq (.reg [4,5] [] [⟨some 23,none,.mv (.t 6)⟩,⟨some 24,none,.mv (.t 7)⟩,⟨some 25,none,.bin .eql (.t 24) (.c (.flat (.int .i64 0)))⟩,⟨some 4,none,.asg (.t 23)⟩,⟨some 5,none,.asg (.t 25)⟩]) (.ret [4,5]))) .skip)) (.seq (.seq (.reg [0,27] [] [⟨some 26,none,.mv (.t 1)⟩,⟨some 27,none,.bin .eql (.t 26) (.c (.flat (.string ⟨#[98,97,115,101,54,52]⟩)))⟩]) (.cond (.t 27) (.seq (.reg [8,9] [] [⟨some 29,none,.mv (.t 0)⟩,⟨some 30,none,.call 120 [.t 29]⟩,⟨some 28,none,.mv (.t 30)⟩,⟨some 31,none,.ext (.t 28) 0⟩,⟨some 32,none,.ext (.t 28) 1⟩,⟨some 8,none,.asg (.t 31)⟩,⟨some 9,none,.asg (.t 32)⟩]) (.seq (.reg [4,5] [] [⟨some 33,none,.mv (.t 8)⟩,⟨some 34,none,.mv (.t 9)⟩,⟨some 35,none,.bin .eql (.t 34) (.c (.flat (.int .i64 0)))⟩,⟨some 4,none,.asg (.t 33)⟩,⟨some 5,none,.asg (.t 35)⟩]) (.ret [4,5]))) .skip)) (.seq (.reg [4,5] [] [⟨some 4,none,.asg (.c (.flat (.string ⟨#[]⟩)))⟩,⟨some 5,none,.asg (.c (.flat (.bool false)))⟩]) (.ret [4,5])))))),[]⟩
def zjb:CCode:=(.seq (.seq (.reg [0,4,5,10] [] [⟨some 7,none,.mv (.t 5)⟩,⟨some 8,none,.mv (.t 0)⟩,⟨some 9,none,.lenS (.t 8)⟩,⟨some 10,none,.bin .lss (.t 7) (.t 9)⟩]) (.cond (.t 10) .skip (.exit 0 [4]))) (.seq (.block 1 (.seq (.seq (.reg [0,4,5,15] [] [⟨some 13,none,.mv (.t 0)⟩,⟨some 14,none,.mv (.t 5)⟩,⟨some 15,none,.call 60 [.t 13,.c (.flat (.string ⟨#[13,10]⟩)),.t 14]⟩]) (.cond (.t 15) (.seq (.reg [0,4,5] [] [⟨some 16,none,.mvA 4⟩,⟨some 17,none,.mksl true 1 1 [.flat (.int .u8 0)] [⟨0,⟨1,.c (.flat (.int .u8 10))⟩⟩]⟩,⟨some 18,none,.append true 1 (.t 16) (.t 17)⟩,⟨some 4,none,.asg (.t 18)⟩]) (.seq (.reg [0,4,5] [] [⟨some 19,none,.mv (.t 5)⟩,⟨some 20,none,.bin .add (.t 19) (.c (.flat (.int .i64 1)))⟩,⟨some 5,none,.asg (.t 20)⟩]) (.exit 1 [0,4,5]))) .skip)) (.seq (.seq (.reg [0,4,5,42] [] [⟨some 21,none,.mv (.t 0)⟩,⟨some 22,none,.mv (.t 5)⟩,⟨some 23,none,.idx (.t 21) (.t 22)⟩,⟨some 24,none,.bin .lss (.t 23) (.c (.flat (.int .u8 1)))⟩,⟨some 25,none,.mv (.t 24)⟩,⟨some 26,some ⟨25,false⟩,.mv (.t 0)⟩,⟨some 27,some ⟨25,false⟩,.mv (.t 5)⟩,⟨some 28,some ⟨25,false⟩,.idx (.t 26) (.t 27)⟩,⟨some 29,some ⟨25,false⟩,.bin .gtr (.t 28) (.c (.flat (.int .u8 127)))⟩,⟨some 30,none,.pick (.t 25) (.c (.flat (.bool true))) (.t 29)⟩,⟨some 31,none,.mv (.t 30)⟩,⟨some 32,some ⟨31,false⟩,.mv (.t 0)⟩,⟨some 33,some ⟨31,false⟩,.mv (.t 5)⟩,⟨some 34,some ⟨31,false⟩,.idx (.t 32) (.t 33)⟩,⟨some 35,some ⟨31,false⟩,.bin .eql (.t 34) (.c (.flat (.int .u8 13)))⟩,⟨some 36,none,.pick (.t 31) (.c (.flat (.bool true))) (.t 35)⟩,⟨some 37,none,.mv (.t 36)⟩,⟨some 38,some ⟨37,false⟩,.mv (.t 0)⟩,⟨some 39,some ⟨37,false⟩,.mv (.t 5)⟩,⟨some 40,some ⟨37,false⟩,.idx (.t 38) (.t 39)⟩,⟨some 41,some ⟨37,false⟩,.bin .eql (.t 40) (.c (.flat (.int .u8 10)))⟩,⟨some 42,none,.pick (.t 37) (.c (.flat (.bool true))) (.t 41)⟩]) (.cond (.t 42) (.seq (.reg [2,3] [] [⟨some 2,none,.asg (.c (.flat (.string ⟨#[]⟩)))⟩,⟨some 3,none,.asg (.c (.flat (.bool false)))⟩]) (.ret [2,3])) .skip)) (.reg [0,4,5] [] [⟨some 43,none,.mvA 4⟩,⟨some 44,none,.mv (.t 0)⟩,⟨some 45,none,.mv (.t 5)⟩,⟨some 46,none,.idx (.t 44) (.t 45)⟩,⟨some 47,none,.mksl true 1 1 [.flat (.int .u8 0)] [⟨0,⟨1,.t 46⟩⟩]⟩,⟨some 48,none,.append true 1 (.t 43) (.t 47)⟩,⟨some 4,none,.asg (.t 48)⟩])))) (.reg [0,4,5] [] [⟨some 11,none,.mv (.t 5)⟩,⟨some 12,none,.bin .add (.t 11) (.c (.flat (.int .i64 1)))⟩,⟨some 5,none,.asg (.t 12)⟩])))
def zjc:CCode:=zjb
theorem zda {cf:Nun.Callee} {m:Nat} {st:Nun.St}:evC cf m zjc st=evC cf m zjb st:=rfl
attribute [go_sem] zjb
def zxz:CFun:=⟨51,[.inl 2,.inl 3],(.seq (.reg [0] [] [⟨some 2,none,.asg (.c (.flat (.string ⟨#[]⟩)))⟩,⟨some 3,none,.asg (.c (.flat (.bool false)))⟩]) (.seq (.reg [0,4] [] [⟨some 6,none,.mksl true 0 1 [] []⟩,⟨some 4,none,.asg (.t 6)⟩]) (.seq (.seq (.reg [0,4,5] [] [⟨some 5,none,.asg (.c (.flat (.int .i64 0)))⟩]) (.block 0 (.loop [0,4,5] zjc))) (.seq (.reg [2,3] [] [⟨some 49,none,.mv (.t 4)⟩,⟨some 50,none,.b2s (.t 49)⟩,⟨some 2,none,.asg (.t 50)⟩,⟨some 3,none,.asg (.c (.flat (.bool true)))⟩]) (.ret [2,3]))))),[]⟩
def zx0:CFun:=⟨21,[.inl 2],(.seq (.reg [0] [] [⟨some 2,none,.asg (.c (.flat (.bool false)))⟩]) (.seq (.reg [3] [] [⟨some 4,none,.mv (.t 0)⟩,⟨some 5,none,.call 98 [.t 4,.c (.flat (.int .u8 47))]⟩,⟨some 3,none,.asg (.t 5)⟩]) (.seq (.reg [2] [] [⟨some 6,none,.mv (.t 3)⟩,⟨some 7,none,.len (.t 6)⟩,⟨some 8,none,.bin .eql (.t 7) (.c (.flat (.int .i64 2)))⟩,⟨some 9,none,.mv (.t 8)⟩,⟨some 10,some ⟨9,true⟩,.mv (.t 3)⟩,⟨some 11,some ⟨9,true⟩,.iadr 1 (.t 10) (.c (.flat (.int .i64 0)))⟩,⟨some 12,some ⟨9,true⟩,.load false 1 (.t 11)⟩,⟨some 13,some ⟨9,true⟩,.bin .neq (.t 12) (.c (.flat (.string ⟨#[]⟩)))⟩,⟨some 14,none,.pick (.t 9) (.t 13) (.c (.flat (.bool false)))⟩,⟨some 15,none,.mv (.t 14)⟩,⟨some 16,some ⟨15,true⟩,.mv (.t 3)⟩,⟨some 17,some ⟨15,true⟩,.iadr 1 (.t 16) (.c (.flat (.int .i64 1)))⟩,⟨some 18,some ⟨15,true⟩,.load false 1 (.t 17)⟩,⟨some 19,some ⟨15,true⟩,.bin .neq (.t 18) (.c (.flat (.string ⟨#[]⟩)))⟩,⟨some 20,none,.pick (.t 15) (.t 19) (.c (.flat (.bool false)))⟩,⟨some 2,none,.asg (.t 20)⟩]) (.ret [2])))),[]⟩
def zie:CCode:=(.seq (.seq (.reg [0,3,16] [] [⟨some 13,none,.mv (.t 3)⟩,⟨some 14,none,.mv (.t 0)⟩,⟨some 15,none,.lenS (.t 14)⟩,⟨some 16,none,.bin .lss (.t 13) (.t 15)⟩]) (.cond (.t 16) .skip (.exit 0 []))) (.seq (.block 1 (.seq (.reg [0,3,4] [] [⟨some 19,none,.mv (.t 0)⟩,⟨some 20,none,.mv (.t 3)⟩,⟨some 21,none,.idx (.t 19) (.t 20)⟩,⟨some 4,none,.asg (.t 21)⟩]) (.seq (.reg [0,3,60] [] [⟨some 22,none,.mv (.t 4)⟩,⟨some 23,none,.bin .geq (.t 22) (.c (.flat (.int .u8 97)))⟩,⟨some 24,none,.mv (.t 23)⟩,⟨some 25,some ⟨24,true⟩,.mv (.t 4)⟩,⟨some 26,some ⟨24,true⟩,.bin .leq (.t 25) (.c (.flat (.int .u8 122)))⟩,⟨some 27,none,.pick (.t 24) (.t 26) (.c (.flat (.bool false)))⟩,⟨some 28,none,.mv (.t 27)⟩,⟨some 29,some ⟨28,false⟩,.mv (.t 4)⟩,⟨some 30,some ⟨28,false⟩,.bin .geq (.t 29) (.c (.flat (.int .u8 65)))⟩,⟨some 31,some ⟨28,false⟩,.mv (.t 30)⟩,⟨some 32,some ⟨31,true⟩,.mv (.t 4)⟩,⟨some 33,some ⟨31,true⟩,.bin .leq (.t 32) (.c (.flat (.int .u8 90)))⟩,⟨some 34,some ⟨28,false⟩,.pick (.t 31) (.t 33) (.c (.flat (.bool false)))⟩,⟨some 35,none,.pick (.t 28) (.c (.flat (.bool true))) (.t 34)⟩,⟨some 36,none,.mv (.t 35)⟩,⟨some 37,some ⟨36,false⟩,.mv (.t 4)⟩,⟨some 38,some ⟨36,false⟩,.bin .geq (.t 37) (.c (.flat (.int .u8 48)))⟩,⟨some 39,some ⟨36,false⟩,.mv (.t 38)⟩,⟨some 40,some ⟨39,true⟩,.mv (.t 4)⟩,⟨some 41,some ⟨39,true⟩,.bin .leq (.t 40) (.c (.flat (.int .u8 57)))⟩,⟨some 42,some ⟨36,false⟩,.pick (.t 39) (.t 41) (.c (.flat (.bool false)))⟩,⟨some 43,none,.pick (.t 36) (.c (.flat (.bool true))) (.t 42)⟩,⟨some 44,none,.mv (.t 43)⟩,⟨some 45,some ⟨44,false⟩,.mv (.t 4)⟩,⟨some 46,some ⟨44,false⟩,.bin .eql (.t 45) (.c (.flat (.int .u8 45)))⟩,⟨some 47,none,.pick (.t 44) (.c (.flat (.bool true))) (.t 46)⟩,⟨some 48,none,.mv (.t 47)⟩,⟨some 49,some ⟨48,false⟩,.mv (.t 4)⟩,⟨some 50,some ⟨48,false⟩,.bin .eql (.t 49) (.c (.flat (.int .u8 95)))⟩,⟨some 51,none,.pick (.t 48) (.c (.flat (.bool true))) (.t 50)⟩,⟨some 52,none,.mv (.t 51)⟩,⟨some 53,some ⟨52,false⟩,.mv (.t 4)⟩,⟨some 54,some ⟨52,false⟩,.bin .eql (.t 53) (.c (.flat (.int .u8 61)))⟩,⟨some 55,none,.pick (.t 52) (.c (.flat (.bool true))) (.t 54)⟩,⟨some 56,none,.mv (.t 55)⟩,⟨some 57,some ⟨56,false⟩,.mv (.t 4)⟩,⟨some 58,some ⟨56,false⟩,.bin .eql (.t 57) (.c (.flat (.int .u8 46)))⟩,⟨some 59,none,.pick (.t 56) (.c (.flat (.bool true))) (.t 58)⟩,⟨some 60,none,.un .not (.t 59)⟩]) (.cond (.t 60) (.seq (.reg [2] [] [⟨some 2,none,.asg (.c (.flat (.bool false)))⟩]) (.ret [2])) .skip)))) (.reg [0,3] [] [⟨some 17,none,.mv (.t 3)⟩,⟨some 18,none,.bin .add (.t 17) (.c (.flat (.int .i64 1)))⟩,⟨some 3,none,.asg (.t 18)⟩])))
def zif:CCode:=zie
theorem za3 {cf:Nun.Callee} {m:Nat} {st:Nun.St}:evC cf m zif st=evC cf m zie st:=rfl
attribute [go_sem] zie
def zvt:CFun:=⟨61,[.inl 2],(.seq (.reg [0] [] [⟨some 2,none,.asg (.c (.flat (.bool false)))⟩]) (.seq (.seq (.reg [0,12] [] [⟨some 5,none,.mv (.t 0)⟩,⟨some 6,none,.lenS (.t 5)⟩,⟨some 7,none,.bin .lss (.t 6) (.c (.flat (.int .i64 1)))⟩,⟨some 8,none,.mv (.t 7)⟩,⟨some 9,some ⟨8,false⟩,.mv (.t 0)⟩,⟨some 10,some ⟨8,false⟩,.lenS (.t 9)⟩,⟨some 11,some ⟨8,false⟩,.bin .gtr (.t 10) (.c (.flat (.int .i64 70)))⟩,⟨some 12,none,.pick (.t 8) (.c (.flat (.bool true))) (.t 11)⟩]) (.cond (.t 12) (.seq (.reg [2] [] [⟨some 2,none,.asg (.c (.flat (.bool false)))⟩]) (.ret [2])) .skip)) (.seq (.seq (.reg [0,3] [] [⟨some 3,none,.asg (.c (.flat (.int .i64 0)))⟩]) (.block 0 (.loop [0,3] zif))) (.seq (.reg [2] [] [⟨some 2,none,.asg (.c (.flat (.bool true)))⟩]) (.ret [2]))))),[]⟩
def zig:CCode:=(.seq (.seq (.reg [0,7,8,9,10,11,32] [] [⟨some 29,none,.mv (.t 11)⟩,⟨some 30,none,.mv (.t 0)⟩,⟨some 31,none,.lenS (.t 30)⟩,⟨some 32,none,.bin .lss (.t 29) (.t 31)⟩]) (.cond (.t 32) .skip (.exit 0 []))) (.seq (.block 1 (.seq (.reg [0,7,8,9,10,11,38] [] [⟨some 35,none,.mv (.t 0)⟩,⟨some 36,none,.mv (.t 7)⟩,⟨some 37,none,.mv (.t 11)⟩,⟨some 38,none,.call 60 [.t 35,.t 36,.t 37]⟩]) (.cond (.t 38) (.seq (.reg [0,7,8,9,11] [] [⟨some 39,none,.mvA 9⟩,⟨some 40,none,.mv (.t 0)⟩,⟨some 41,none,.mv (.t 10)⟩,⟨some 42,none,.mv (.t 11)⟩,⟨some 43,none,.sliceS (.t 40) (.some (.t 41)) (.some (.t 42))⟩,⟨some 44,none,.mksl false 1 1 [.flat (.string ⟨#[]⟩)] [⟨0,⟨1,.t 43⟩⟩]⟩,⟨some 45,none,.append false 1 (.t 39) (.t 44)⟩,⟨some 9,none,.asg (.t 45)⟩]) (.seq (.reg [0,7,8,9,10] [] [⟨some 46,none,.mv (.t 11)⟩,⟨some 47,none,.mv (.t 7)⟩,⟨some 48,none,.lenS (.t 47)⟩,⟨some 49,none,.bin .add (.t 46) (.t 48)⟩,⟨some 10,none,.asg (.t 49)⟩]) (.reg [0,7,8,9,10,11] [] [⟨some 50,none,.mv (.t 10)⟩,⟨some 51,none,.bin .sub (.t 50) (.c (.flat (.int .i64 1)))⟩,⟨some 11,none,.asg (.t 51)⟩]))) (.seq (.reg [0,7,8,9,10,11,55] [] [⟨some 52,none,.mv (.t 0)⟩,⟨some 53,none,.mv (.t 8)⟩,⟨some 54,none,.mv (.t 11)⟩,⟨some 55,none,.call 60 [.t 52,.t 53,.t 54]⟩]) (.cond (.t 55) (.seq (.reg [4,5] [] [⟨some 56,none,.mvA 9⟩,⟨some 57,none,.mv (.t 0)⟩,⟨some 58,none,.mv (.t 10)⟩,⟨some 59,none,.mv (.t 11)⟩,⟨some 60,none,.sliceS (.t 57) (.some (.t 58)) (.some (.t 59))⟩,⟨some 61,none,.mksl false 1 1 [.flat (.string ⟨#[]⟩)] [⟨0,⟨1,.t 60⟩⟩]⟩,⟨some 62,none,.append false 1 (.t 56) (.t 61)⟩,⟨some 63,none,.mv (.t 11)⟩,⟨some 64,none,.mv (.t 8)⟩,⟨some 65,none,.lenS (.t 64)⟩,⟨some 66,none,.bin .add (.t 63) (.t 65)⟩,⟨some 67,none,.mv (.t 0)⟩,⟨some 68,none,.lenS (.t 67)⟩,⟨some 69,none,.bin .eql (.t 66) (.t 68)⟩,⟨some 4,none,.asg (.t 62)⟩,⟨some 5,none,.asg (.t 69)⟩]) (.ret [4,5])) .skip))))) (.reg [0,7,8,9,10,11] [] [⟨some 33,none,.mv (.t 11)⟩,⟨some 34,none,.bin .add (.t 33) (.c (.flat (.int .i64 1)))⟩,⟨some 11,none,.asg (.t 34)⟩])))
def zih:CCode:=zig
theorem zfq {cf:Nun.Callee} {m:Nat} {st:Nun.St}:evC cf m zih st=evC cf m zig st:=rfl
attribute [go_sem] zig
def zvu:CFun:=⟨70,[.inl 4,.inl 5],(.seq (.reg [0,1] [] [⟨some 4,none,.asg (.c (.flat (.slice .none 0 0)))⟩,⟨some 5,none,.asg (.c (.flat (.bool false)))⟩]) (.seq (.reg [0,1,6] [] [⟨some 12,none,.mv (.t 1)⟩,⟨some 13,none,.bin .add (.c (.flat (.string ⟨#[45,45]⟩))) (.t 12)⟩,⟨some 14,none,.bin .add (.t 13) (.c (.flat (.string ⟨#[13,10]⟩)))⟩,⟨some 6,none,.asg (.t 14)⟩]) (.seq (.seq (.reg [0,1,6,18] [] [⟨some 15,none,.mv (.t 0)⟩,⟨some 16,none,.mv (.t 6)⟩,⟨some 17,none,.call 60 [.t 15,.t 16,.c (.flat (.int .i64 0))]⟩,⟨some 18,none,.un .not (.t 17)⟩]) (.cond (.t 18) (.seq (.reg [4,5] [] [⟨some 4,none,.asg (.c (.flat (.slice .none 0 0)))⟩,⟨some 5,none,.asg (.c (.flat (.bool false)))⟩]) (.ret [4,5])) .skip)) (.seq (.reg [0,6,7,8] [] [⟨some 19,none,.mv (.t 1)⟩,⟨some 20,none,.bin .add (.c (.flat (.string ⟨#[13,10,45,45]⟩))) (.t 19)⟩,⟨some 21,none,.bin .add (.t 20) (.c (.flat (.string ⟨#[13,10]⟩)))⟩,⟨some 22,none,.mv (.t 1)⟩,⟨some 23,none,.bin .add (.c (.flat (.string ⟨#[13,10,45,45]⟩))) (.t 22)⟩,⟨some 24,none,.bin .add (.t 23) (.c (.flat (.string ⟨#[45,45,13,10]⟩)))⟩,⟨some 7,none,.asg (.t 21)⟩,⟨some 8,none,.asg (.t 24)⟩]) (.seq (.reg [0,6,7,8,9] [] [⟨some 25,none,.mksl false 0 1 [] []⟩,⟨some 9,none,.asg (.t 25)⟩]) (.seq (.reg [0,7,8,9,10] [] [⟨some 26,none,.mv (.t 6)⟩,⟨some 27,none,.lenS (.t 26)⟩,⟨some 10,none,.asg (.t 27)⟩]) (.seq (.seq (.reg [0,7,8,9,10,11] [] [⟨some 28,none,.mv (.t 10)⟩,⟨some 11,none,.asg (.t 28)⟩]) (.block 0 (.loop [0,7,8,9,10,11] zih))) (.seq (.reg [4,5] [] [⟨some 4,none,.asg (.c (.flat (.slice .none 0 0)))⟩,⟨some 5,none,.asg (.c (.flat (.bool false)))⟩]) (.ret [4,5]))))))))),[]⟩
def zl5:CCode:=(.seq (.seq (.reg [0,1,6,7,8,12] [] [⟨some 9,none,.mv (.t 8)⟩,⟨some 10,none,.mv (.t 0)⟩,⟨some 11,none,.len (.t 10)⟩,⟨some 12,none,.bin .lss (.t 9) (.t 11)⟩]) (.cond (.t 12) .skip (.exit 0 [6,7]))) (.seq (.block 1 (.seq (.seq (.reg [0,1,6,7,8,23] [] [⟨some 15,none,.mv (.t 0)⟩,⟨some 16,none,.mv (.t 8)⟩,⟨some 17,none,.iadr 2 (.t 15) (.t 16)⟩,⟨some 18,none,.fadr 0 (.t 17)⟩,⟨some 19,none,.load false 1 (.t 18)⟩,⟨some 20,none,.call 64 [.t 19]⟩,⟨some 21,none,.mv (.t 1)⟩,⟨some 22,none,.call 64 [.t 21]⟩,⟨some 23,none,.bin .neq (.t 20) (.t 22)⟩]) (.cond (.t 23) (.exit 1 [0,1,6,7,8]) .skip)) (.seq (.seq (.reg [0,1,6,7,8,25] [] [⟨some 24,none,.mv (.t 7)⟩,⟨some 25,none,.bin .eql (.t 24) (.c (.flat (.int .i64 0)))⟩]) (.cond (.t 25) (.reg [0,1,6,7,8] [] [⟨some 26,none,.mv (.t 0)⟩,⟨some 27,none,.mv (.t 8)⟩,⟨some 28,none,.iadr 2 (.t 26) (.t 27)⟩,⟨some 29,none,.fadr 1 (.t 28)⟩,⟨some 30,none,.load false 1 (.t 29)⟩,⟨some 6,none,.asg (.t 30)⟩]) .skip)) (.reg [0,1,6,7,8] [] [⟨some 31,none,.mv (.t 7)⟩,⟨some 32,none,.bin .add (.t 31) (.c (.flat (.int .i64 1)))⟩,⟨some 7,none,.asg (.t 32)⟩])))) (.reg [0,1,6,7,8] [] [⟨some 13,none,.mv (.t 8)⟩,⟨some 14,none,.bin .add (.t 13) (.c (.flat (.int .i64 1)))⟩,⟨some 8,none,.asg (.t 14)⟩])))
def zl6:CCode:=zl5
theorem zh3 {cf:Nun.Callee} {m:Nat} {st:Nun.St}:evC cf m zl6 st=evC cf m zl5 st:=rfl
attribute [go_sem] zl5
def z5v:CFun:=⟨35,[.inl 4,.inl 5],(.seq (.reg [0,1] [] [⟨some 4,none,.asg (.c (.flat (.string ⟨#[]⟩)))⟩,⟨some 5,none,.asg (.c (.flat (.int .i64 0)))⟩]) (.seq (.reg [0,1,6] [] [⟨some 6,none,.asg (.c (.flat (.string ⟨#[]⟩)))⟩]) (.seq (.reg [0,1,6,7] [] [⟨some 7,none,.asg (.c (.flat (.int .i64 0)))⟩]) (.seq (.seq (.reg [0,1,6,7,8] [] [⟨some 8,none,.asg (.c (.flat (.int .i64 0)))⟩]) (.block 0 (.loop [0,1,6,7,8] zl6))) (.seq (.reg [4,5] [] [⟨some 33,none,.mv (.t 6)⟩,⟨some 34,none,.mv (.t 7)⟩,⟨some 4,none,.asg (.t 33)⟩,⟨some 5,none,.asg (.t 34)⟩]) (.ret [4,5])))))),[]⟩
def zvv:CFun:=⟨35,[.inl 6],(.seq (.reg [0,1,2] [] [⟨some 6,none,.asg (.c (.flat (.bool false)))⟩]) (.seq (.reg [6] [] [⟨some 7,none,.mv (.t 2)⟩,⟨some 8,none,.bin .geq (.t 7) (.c (.flat (.int .i64 0)))⟩,⟨some 9,none,.mv (.t 8)⟩,⟨some 10,some ⟨9,true⟩,.mv (.t 2)⟩,⟨some 11,some ⟨9,true⟩,.mv (.t 0)⟩,⟨some 12,some ⟨9,true⟩,.lenS (.t 11)⟩,⟨some 13,some ⟨9,true⟩,.bin .leq (.t 10) (.t 12)⟩,⟨some 14,none,.pick (.t 9) (.t 13) (.c (.flat (.bool false)))⟩,⟨some 15,none,.mv (.t 14)⟩,⟨some 16,some ⟨15,true⟩,.mv (.t 1)⟩,⟨some 17,some ⟨15,true⟩,.lenS (.t 16)⟩,⟨some 18,some ⟨15,true⟩,.mv (.t 0)⟩,⟨some 19,some ⟨15,true⟩,.lenS (.t 18)⟩,⟨some 20,some ⟨15,true⟩,.mv (.t 2)⟩,⟨some 21,some ⟨15,true⟩,.bin .sub (.t 19) (.t 20)⟩,⟨some 22,some ⟨15,true⟩,.bin .leq (.t 17) (.t 21)⟩,⟨some 23,none,.pick (.t 15) (.t 22) (.c (.flat (.bool false)))⟩,⟨some 24,none,.mv (.t 23)⟩,⟨some 25,some ⟨24,true⟩,.mv (.t 0)⟩,⟨some 26,some ⟨24,true⟩,.mv (.t 2)⟩,⟨some 27,some ⟨24,true⟩,.mv (.t 2)⟩,⟨some 28,some ⟨24,true⟩,.mv (.t 1)⟩,⟨some 29,some ⟨24,true⟩,.lenS (.t 28)⟩,⟨some 30,some ⟨24,true⟩,.bin .add (.t 27) (.t 29)⟩,⟨some 31,some ⟨24,true⟩,.sliceS (.t 25) (.some (.t 26)) (.some (.t 30))⟩,⟨some 32,some ⟨24,true⟩,.mv (.t 1)⟩,⟨some 33,some ⟨24,true⟩,.bin .eql (.t 31) (.t 32)⟩,⟨some 34,none,.pick (.t 24) (.t 33) (.c (.flat (.bool false)))⟩,⟨some 6,none,.asg (.t 34)⟩]) (.ret [6]))),[]⟩
def zl7:CCode:=(.seq (.seq (.reg [0,1,5,6,7,12] [] [⟨some 9,none,.mv (.t 7)⟩,⟨some 10,none,.mv (.t 0)⟩,⟨some 11,none,.lenS (.t 10)⟩,⟨some 12,none,.bin .lss (.t 9) (.t 11)⟩]) (.cond (.t 12) .skip (.exit 0 [0,5,6]))) (.seq (.block 1 (.seq (.reg [0,1,5,6,7,19] [] [⟨some 15,none,.mv (.t 0)⟩,⟨some 16,none,.mv (.t 7)⟩,⟨some 17,none,.idx (.t 15) (.t 16)⟩,⟨some 18,none,.mv (.t 1)⟩,⟨some 19,none,.bin .eql (.t 17) (.t 18)⟩]) (.cond (.t 19) (.seq (.reg [0,1,5,7] [] [⟨some 20,none,.mvA 5⟩,⟨some 21,none,.mv (.t 0)⟩,⟨some 22,none,.mv (.t 6)⟩,⟨some 23,none,.mv (.t 7)⟩,⟨some 24,none,.sliceS (.t 21) (.some (.t 22)) (.some (.t 23))⟩,⟨some 25,none,.mksl false 1 1 [.flat (.string ⟨#[]⟩)] [⟨0,⟨1,.t 24⟩⟩]⟩,⟨some 26,none,.append false 1 (.t 20) (.t 25)⟩,⟨some 5,none,.asg (.t 26)⟩]) (.reg [0,1,5,6,7] [] [⟨some 27,none,.mv (.t 7)⟩,⟨some 28,none,.bin .add (.t 27) (.c (.flat (.int .i64 1)))⟩,⟨some 6,none,.asg (.t 28)⟩])) .skip))) (.reg [0,1,5,6,7] [] [⟨some 13,none,.mv (.t 7)⟩,⟨some 14,none,.bin .add (.t 13) (.c (.flat (.int .i64 1)))⟩,⟨some 7,none,.asg (.t 14)⟩])))
def zl8:CCode:=zl7
theorem zkd {cf:Nun.Callee} {m:Nat} {st:Nun.St}:evC cf m zl8 st=evC cf m zl7 st:=rfl
attribute [go_sem] zl7
def z5w:CFun:=⟨35,[.inl 4],(.seq (.reg [0,1] [] [⟨some 4,none,.asg (.c (.flat (.slice .none 0 0)))⟩]) (.seq (.reg [0,1,5] [] [⟨some 8,none,.mksl false 0 1 [] []⟩,⟨some 5,none,.asg (.t 8)⟩]) (.seq (.reg [0,1,5,6] [] [⟨some 6,none,.asg (.c (.flat (.int .i64 0)))⟩]) (.seq (.seq (.reg [0,1,5,6,7] [] [⟨some 7,none,.asg (.c (.flat (.int .i64 0)))⟩]) (.block 0 (.loop [0,1,5,6,7] zl8))) (.seq (.reg [4] [] [⟨some 29,none,.mvA 5⟩,⟨some 30,none,.mv (.t 0)⟩,⟨some 31,none,.mv (.t 6)⟩,⟨some 32,none,.sliceS (.t 30) (.some (.t 31)) .none⟩,⟨some 33,none,.mksl false 1 1 [.flat (.string ⟨#[]⟩)] [⟨0,⟨1,.t 32⟩⟩]⟩,⟨some 34,none,.append false 1 (.t 29) (.t 33)⟩,⟨some 4,none,.asg (.t 34)⟩]) (.ret [4])))))),[]⟩
def lvs:List (FuncId × Lv):=[(5,⟨[[0,1,2],[2,7,8],[2,7,8,9],[2,7,8,9,10],[2,7,8,9,10],[2,7,8,9,10,26],[2,9],[2,7,8,9,10,11],[2,7,8,9,10,11,12],[2,7,8,9,10,11,12],[2,7,8,9,10,11,12,40],[2,7,8,10,11],[2,7,8,9,10,11,12],[2,7,8,9,10,11,12],[2,7,8,9,10],[2,7,8,9,10],[9,55],[9],[9,13,14],[13,14,15,16],[6],[6]],[],[107,4611686018427387943]⟩),(20,⟨[[1,2,4],[1,2,4,5],[1,2,4,5,6],[1,2,4,5,6],[1,2,4,5,6,17],[1,2,4,5],[1,2,4,5,6],[1,2,4,5,6],[1,2,4,5,7],[1,2,4,5,7],[1,2,4,5,7,46],[4,5],[1,2,4,5,7],[1,2,4,5,7],[4],[4]],[],[107,4611686018427387943]⟩),(21,⟨[[],[1,2],[0],[0]],[],[107,4611686018427387943]⟩),(19,⟨[[2,3],[2,3,34],[4],[4],[2,3,5],[2,3,5],[2,3,5,39],[],[2,3,5,53],[4],[4],[2,3,5],[4],[4]],[],[107,4611686018427387943]⟩),(40,⟨[[0,1],[0,1,10],[4],[4],[0,1,5],[0,1,5],[0,1,5,14],[],[0,1,5,40],[4],[4],[0,1,5],[4],[4]],[],[107,4611686018427387943]⟩),(39,⟨[[0,1,2,6],[0,1,2,6,7,8,9],[0,1,2,6,7,8],[0,1,2,6,7,8,10],[0,1,2,6,7,8,10],[0,1,2,6,7,8,10,11],[0,1,2,6,8,10,11,12,13],[0,1,2,6,8,10,11,12,42],[0,1,2,6,8,10,11,12],[0,1,2,6,8,10,11,12],[0,1,2,6,8,10,11,12,48],[6,10],[6],[6],[0,1,2,6,8,10,11],[0,1,2,6,8,10,11,14],[0,2,6,10,14,67],[14],[0,2,6,10,14],[0,2,6,10,14],[0,2,6,10,14],[0,2,6,10,91,92,93],[0,2,6,10,91,92,93],[0,2,6,10,91,92,93,94],[6,10],[0,2,6,10,17,91,92,93],[0,2,6,10,91,92,93],[0,2,6,10,91,92,93],[6],[6]],[[[14,15],[]]],[107,4611686018427387943]⟩),(70,⟨[[1,5],[]],[],[107,4611686018427387943]⟩),(71,⟨[[0],[0,4,5],[4,5,7],[4,5],[4,35],[2,3],[2,3],[8,9,10],[8,9],[8,9,11],[8,11,46,47,48],[8,11,46,47,48],[8,11,46,47,48,49],[8,11],[8,11,13,46,47,48],[8,11,13,46,47,48,54],[8,11,46,47,48],[8,11,46,47,48],[8,11,14,15,16],[8,11],[2,3],[2,3]],[],[107,4611686018427387943]⟩),(75,⟨[[0,1],[0,1,5,6],[0,5,6,7],[0,5,6,7,8],[4],[4],[0,5,6,7,12],[5,6],[0,5,6,19],[5,6],[5],[4],[4]],[],[107,4611686018427387943]⟩),(128,⟨[[0],[0,6,7],[0,6,7],[0,6,7,8],[0],[0,3,6,7],[0,6,7],[0,6,7],[4],[4],[2],[2]],[],[107,4611686018427387943]⟩),(76,⟨[[0],[0,6,7],[0,6,7],[0,6,7,8],[0],[0,3,6,7],[0,4,6,7],[0,6,7,33],[2],[2],[0,6,7],[2],[2]],[],[107,4611686018427387943]⟩),(77,⟨[[2,3],[4],[4]],[],[107,4611686018427387943]⟩),(131,⟨[[0,2,4],[0,4,5,6],[0,4,5],[0,4,5,7],[0,4,5,7,8],[0,4,5,7,8],[0,4,5,7,8,9],[0,4,5,7,8,9],[0,4,5,7,8],[0,4,5,7,8,10],[0,4,5,7,8,10,41],[0,5,7,8],[],[],[0,4,5,7,8,53],[0,4,5,7,8],[0,4,5,7,8],[0,4,5,8,62],[],[0,4,5,7],[0,4,5,7,8]],[],[107,4611686018427387943]⟩),(72,⟨[[0,1],[0,1,6,7],[1,6,7,10,11,12],[1,6,7,10,11,12],[1,6,7,10,11,12,13],[6,7],[1,6,7,9,10,11,12],[1,6,7,9,10,11,12,20],[1,6,7,10,11,12],[1,6,7,9,10,11,12,22],[1,6,7,10,11,12],[1,6,7,10,11,12],[1,6,7,10,11,12],[4,5],[4,5]],[],[107,4611686018427387943]⟩),(17,⟨[[0,1],[0,1,5],[0,1,5,6],[0,1,5,6],[0,1,5,6,15],[0,5],[0,1,5,6,19],[0,1,5,6],[0,1,5,6],[0,1,5,6],[4],[4]],[],[107,4611686018427387943]⟩),(16,⟨[[0,2],[2,4,6],[2,3],[2,3]],[],[107,4611686018427387943]⟩),(37,⟨[[0,1,2,6],[0,1,2,6,9],[0,1,2,6,9,10,11,12],[0,1,2,6,9,10,11,12,40],[6,7,8],[6,7,8],[0,1,2,6,9,10,11,13,14],[0,1,2,6,9,10,11,13,14,15,16],[0,1,2,6,9,10,11,13,14,15,16,59],[6,7,8],[6,7,8],[0,1,2,6,9,11,13,14,15,16,17],[0,1,2,6,9,11,13,14,15,16,17,18],[0,1,2,6,9,11,13,15,16,17,18,65],[0,1,2,6,9,11,15,16,17,18,19,20,21],[0,1,2,6,9,11,15,16,17,18,19,20,21,73],[6,7,8],[6,7,8],[0,1,2,6,9,11,15,16,17,18,20],[0,1,2,6,9,11,15,16,17,18,20,22],[0,1,2,6,9,11,15,16,17,18,20,22],[0,1,2,6,9,11,15,16,17,18,20,22,83],[0,1,2,6,9,11,15,16,17,18],[0,1,2,6,9,11,15,16,17,18,20,22,92],[0,1,2,6,9,11,15,16,17,18,20,22],[0,1,2,6,9,11,15,16,17,18,20,22],[0,1,2,6,9,11,15,16,17,18,101],[6,7,8],[6,7,8],[0,1,2,6,9,11,15,16,17,18],[0,1,2,6,9,11,15,17,18,107],[0,1,2,6,9,11,15,17,18],[1,2,6,9,15,17,18,23],[1,2,6,9,15,17,18,23,114],[2,6,9,17,24,25],[2,6,9,17,24,122],[6,7,8],[6,7,8],[2,6,17],[6,7,8],[6,7,8],[1,2,6,9,15,17,18,26,27],[1,2,6,9,17,26,145],[6,7,8],[6,7,8],[1,2,6,9,17,26,149],[6,7,8],[6,7,8],[1,2,6,9,17,26],[1,2,6,9,17,26,157],[6,7,8],[6,7,8],[1,2,6,9,17,26,28],[1,2,6,9,17,26,28],[1,2,6,9,17,26,28,163],[2,6,17],[1,2,6,9,17,26,28,29,30,31],[1,2,6,9,17,26,28,29,30,31,179],[6,7,8],[6,7,8],[1,6,9,17,26,28,30],[1,2,6,9,17,26,28],[1,2,6,9,17,26,28],[6,7,8],[6,7,8]],[],[107,4611686018427387943]⟩),(66,⟨[[0,1],[0,1,11],[4,5],[4,5],[0,1,17],[6,7],[4,5],[4,5],[0,27],[8,9],[4,5],[4,5],[4,5],[4,5]],[],[107,4611686018427387943]⟩),(118,⟨[[0],[0,4],[0,4,5],[0,4,5],[0,4,5,10],[4],[0,4,5,15],[0,4,5],[0,4,5],[0,4,5],[0,4,5,42],[2,3],[2,3],[0,4,5],[0,4,5],[2,3],[2,3]],[],[107,4611686018427387943]⟩),(65,⟨[[0],[3],[2],[2]],[],[107,4611686018427387943]⟩),(68,⟨[[0],[0,12],[2],[2],[0,3],[0,3],[0,3,16],[],[0,3,4],[0,3,60],[2],[2],[0,3],[2],[2]],[],[107,4611686018427387943]⟩),(67,⟨[[0,1],[0,1,6],[0,1,6,18],[4,5],[4,5],[0,6,7,8],[0,6,7,8,9],[0,7,8,9,10],[0,7,8,9,10,11],[0,7,8,9,10,11],[0,7,8,9,10,11,32],[],[0,7,8,9,10,11,38],[0,7,8,9,11],[0,7,8,9,10],[0,7,8,9,10,11],[0,7,8,9,10,11,55],[4,5],[4,5],[0,7,8,9,10,11],[4,5],[4,5]],[],[107,4611686018427387943]⟩),(62,⟨[[0,1],[0,1,6],[0,1,6,7],[0,1,6,7,8],[0,1,6,7,8],[0,1,6,7,8,12],[6,7],[0,1,6,7,8,23],[0,1,6,7,8],[0,1,6,7,8,25],[0,1,6,7,8],[0,1,6,7,8],[0,1,6,7,8],[4,5],[4,5]],[],[107,4611686018427387943]⟩),(60,⟨[[0,1,2],[6],[6]],[],[107,4611686018427387943]⟩),(98,⟨[[0,1],[0,1,5],[0,1,5,6],[0,1,5,6,7],[0,1,5,6,7],[0,1,5,6,7,12],[0,5,6],[0,1,5,6,7,19],[0,1,5,7],[0,1,5,6,7],[0,1,5,6,7],[4],[4]],[],[107,4611686018427387943]⟩)]
noncomputable def code:FuncId→Option CFun:=fun f=>(lvs.lookup f).bind fun lv=>zp4 Tryz.prog lv f
theorem zt7:∀ f c,code f=some c→∃ lv,zp4 Tryz.prog lv f=some c:=fun f c h=>by
 obtain ⟨lv,_,h2⟩:=qb h
 exact ⟨lv,h2⟩
theorem yb4:code Nun.yldF=none:=by kernel_rfl
theorem zg7:code 5=some zic:=by kernel_rfl
theorem zg1:code 20=some znv:=by kernel_rfl
theorem zju:code 21=some zl4:=by kernel_rfl
theorem zt8:code 19=some z1s:=by kernel_rfl
theorem zmw:code 40=some z1t:=by kernel_rfl
theorem zaf:code 39=some zjt:=by kernel_rfl
theorem zox:code 70=some zt4:=by kernel_rfl
theorem zdw:code 71=some zt5:=by kernel_rfl
theorem zdx:code 75=some zt6:=by kernel_rfl
theorem zf4:code 128=some zrz:=by kernel_rfl
theorem zmx:code 76=some zqg:=by kernel_rfl
theorem zmy:code 77=some zqh:=by kernel_rfl
theorem zem:code 131=some znw:=by kernel_rfl
theorem zt9:code 72=some z1u:=by kernel_rfl
theorem zr0:code 17=some zxx:=by kernel_rfl
theorem zr1:code 16=some zxy:=by kernel_rfl
theorem zbh:code 37=some z1v:=by kernel_rfl
theorem zua:code 66=some z1w:=by kernel_rfl
theorem zr2:code 118=some zxz:=by kernel_rfl
theorem zr3:code 65=some zx0:=by kernel_rfl
theorem zqi:code 68=some zvt:=by kernel_rfl
theorem zqj:code 67=some zvu:=by kernel_rfl
theorem zvw:code 62=some z5v:=by kernel_rfl
theorem zqk:code 60=some zvv:=by kernel_rfl
theorem zvx:code 98=some z5w:=by kernel_rfl
theorem all_nil {α:Type} {P:α→Prop}:∀ x∈([]:List α),P x:=fun _ h=>by cases h
theorem all_cons {α:Type} {P:α→Prop} {a:α} {l:List α} (h:P a) (t:∀ x∈l,P x):∀ x∈a::l,P x:=fun x hx=>by
 rcases List.mem_cons.1 hx with rfl | hx
 ·exact h
 ·exact t x hx
end Go.Proofs.YtmpiobfdchlikaaGreatDoor
end
section
namespace Nun
open Go
attribute [go_sem] look_nil z3z z30 znq z4l zsk z31 z32 z33 z34 z35 z36
attribute [go_sem] z38 z39 z4a z9o z4b z4c z1f z4d z9p z9q z4e yko
attribute [go_sem] ykp ykq ykr yks ykt yku ykv ykw yqe ykx yky yfa
attribute [go_sem] ykz yqf yqg yk0 z9r z4f z9s z9t z9u z9v z9w z9x
attribute [go_sem] z9y z9z z4g z1g zvi ztx z4h z1h z90 z91 z92 z93
attribute [go_sem] z94 z95 z4i z96 yfb z97 z98 z99 yaa yab yac zmt
attribute [go_sem] zzd z4j zin z4k zxr yk1 yk2 z9l ye7 ye8 ye9 zxq
attribute [go_sem] zvh z1b znr z1c z9m z9n z4m zsl z1i zo7 zo8 z1j
attribute [go_sem] ztz zo9 zns zk1 z1k zmu zk2 yk3 z4n z4o z4p yfc
attribute [go_sem] yad zqc zqd zh0 z4r yfd yfe yff yfg yk4 yfh yfi
attribute [go_sem] yfj ev_t ev_c yfk zze yfl zzf yae zvj z4t yqh yk5
attribute [go_sem] yk6 yfm yfn yfp yfq z1l yk7 yk8 yk9 yla ylf yle
attribute [go_sem] ylc eq_n eq_b eq_i eq_s ylb yfr yfs yft yfu yfv yqi
attribute [go_sem] yqj yfx yfy ylg yaf yfz yag ylh zzg yah yli yf0
attribute [go_sem] yai yaj yf1 yf2 yf3 yf4 zxt yak z4w z4x yal yam
attribute [go_sem] yan yao yap ya1 ya2 z5a z40 z41 zt1 z1n yaq yar
attribute [go_sem] yas yqk ylk yll ylm yf5 yf6 yf7 yga ygb ygc ygd
attribute [go_sem] yge ygf ygg ygi ygj yln ylo ygk ygl ygm ygn yql
attribute [go_sem] yqm z43 ylp ylq ylr yls ylt ylu yax yqn yqo ygp
attribute [go_sem] ygq z45 ylv ylw ylx yly yl0 yl1 ylz ygs ygt yl2
attribute [go_sem] yl3 yqp yqq ygu yay zvm z1o z48 yaz zt2 ya0 zzh
attribute [go_sem] z1p zxu ygw ygx ygv ygy yl4 yl5 yl7 ygz yg0 yg1
attribute [go_sem] z5d yg2 yl8 yl9 yma ymb zfa ya5 ya6 z5f ya7 z5g
attribute [go_sem] yg3 yg4 ya9 yg5 yba ybb ybc sg_n sg_s ybd ybe yg6
attribute [go_sem] ybf ymc pre_nil ybg ymd yme sp_n sp_s z5j z5k yhh ybm
attribute [go_sem] ybl ymq yqr ymf ymg yg7 ymh ymj ymi ymk yg8 yqs
attribute [go_sem] yg9 yml ybh yha yhb ybi yhc ymm yhd ymn yhe ybj
attribute [go_sem] z5l ybk z5m ymo ymp yhf yqt yhg zvp ybn ymr yhj
attribute [go_sem] yqw ymu kQ_s yqx yqy yhl yqz ymv yhm ymw ymy ymx
attribute [go_sem] ymz yhn yq0 yho ybp yhp yhq ym0 yhr ym1 yhs ybq
attribute [go_sem] z5o ybr z5p ym2 ym3 yht yq1 yhu kT_s yms yqu yqv
attribute [go_sem] ymt yhk ybs ym4 yhv ym5 yq2 ym6 yq3 ym7 ym8 ym9
attribute [go_sem] ynb yhw yhx ybt ybu ybv ync ynd yq4 yhy yhz yh0
attribute [go_sem] yne ynf yh1 ybw ybx yd8 yd9 yh2 yh3 yng ynh yh4
attribute [go_sem] yni ynj ynk ynl yby ybz yb0 yb1 yh5 yh6 yh7 ynm
attribute [go_sem] ynn yno ynp ynq ynr yq5 yns ynt ynu ynv ynw ynx
attribute [go_sem] yny ynz yn0 yn1 yn2 yn3 yn4 yn5 z1r zxw lows PV.low
attribute [go_sem] zcb PV.noPtr PV.good PV.cells zlt zd7 isLp Option.map_some Option.map_none List.length_cons List.length_nil List.take_succ_cons
attribute [go_sem] List.take_zero List.take_nil List.drop_succ_cons List.drop_zero List.drop_nil List.cons_append List.nil_append List.append_nil List.getElem?_cons_zero List.getElem?_cons_succ List.getElem?_nil List.set_cons_zero
attribute [go_sem] List.set_cons_succ List.zip_cons_cons List.zip_nil_left List.zip_nil_right List.foldl_cons List.foldl_nil if_true if_false decide_true decide_false Bool.and_true Bool.true_and
attribute [go_sem] Bool.and_false Bool.false_and Bool.not_true Bool.not_false Bool.false_eq_true and_true true_and and_self and_false false_and true_or or_true
attribute [go_sem] or_false false_or or_self ne_eq not_false_eq_true not_true_eq_false Nat.le_refl Nat.zero_le Nat.zero_add Nat.add_zero Nat.mul_one yh8
attribute [go_sem] bne_iff_ne Option.some.injEq Int.cast_ofNat_Int
abbrev Str:=List UInt8
def S (l:Str):ByteArray:=⟨l.toArray⟩
theorem mk_S {l:Str}:ByteArray.mk (List.toArray l)=S l:=rfl
theorem zcv {l:Str}:(S l).size=l.length:=by simp [S,ByteArray.size]
theorem yb5 {l:Str} {i:Nat}:(S l)[i]? =l[i]? :=by
 show (ByteArray.mk l.toArray)[i]? =_
 by_cases h:i<l.length
 ·rw [qe h]
  have h2:i<(ByteArray.mk l.toArray).size:=by simpa [ByteArray.size] using h
  rw [getElem?_pos (ByteArray.mk l.toArray) i h2]
  rfl
 ·rw [List.getElem?_eq_none (by omega),getElem?_neg]
  simpa [ByteArray.size] using h
theorem yn6 {a b:Str}:S a++S b=S (a++b):=ByteArray.ext (by simp [S])
theorem z1x {l:Str} {a b:Nat}:(S l).extract a b=S ((l.take b).drop a):=ByteArray.ext (by
 rw [ByteArray.data_extract]
 apply Array.ext'
 simp [S,List.extract_eq_take_drop,List.drop_take])
theorem yq6 {a b:Str}:S a=S b ↔ a=b:=⟨fun h=>by simpa [S] using h,fun h=>by rw [h]⟩
theorem yh9 {a b:Str}:eqB (S a) (S b)=decide (a=b):=by simp only [eqB,yq6]
def zhr (a:Str):List PV:=a.map fun b=>.flat (.int .u8 b.toNat)
theorem zsn {a b:Str}:zhr a++zhr b=zhr (a++b):=by simp [zhr]
theorem zf5 {a:Str}:(zhr a).length=a.length:=by simp [zhr]
theorem zlk:∀ (a:Str),bytesOf (zhr a)=some a
 | []=>rfl
 | b::a=>by
   show bytesOf (.flat (.int .u8 b.toNat)::zhr a)=_
   have hb:=b.toNat_lt
   rw [bytesOf,if_pos (by omega),zlk a]
   simp
theorem zk3 {st:St} {d:Nat} {c:UInt8}:yav st d (some c)=some (st.put d (.flat (.int .u8 c.toNat))):=rfl
theorem n0:((0:Nat):Int)=0:=rfl
theorem n1:((1:Nat):Int)=1:=rfl
theorem n2:((2:Nat):Int)=2:=rfl
theorem n3:((3:Nat):Int)=3:=rfl
theorem n4:((4:Nat):Int)=4:=rfl
theorem u8_or (a b:Nat) (ha:a<256) (hb:b<256):yb2 .u8 (a:Int) (b:Int)=((a ||| b:Nat):Int):=by
 show IntKind.u8.wrap ((BitVec.ofInt 8 (a:Int) ||| BitVec.ofInt 8 (b:Int)).toNat:Int)=_
 have h1:(a ||| b)<2 ^ 8:=Nat.or_lt_two_pow (by omega) (by omega)
 have h2:BitVec.ofInt 8 (a:Int)=BitVec.ofNat 8 a:=by simp
 have h3:BitVec.ofInt 8 (b:Int)=BitVec.ofNat 8 b:=by simp
 rw [h2,h3,BitVec.toNat_or,BitVec.toNat_ofNat,BitVec.toNat_ofNat,Nat.mod_eq_of_lt (by omega),Nat.mod_eq_of_lt (by omega),yb3 (by omega)]
def yia (body:St→Option (Out × St)) (live:List Nat) (nb n:Nat):Option (Out × St)→Option (Out × St)
 | some (.normal,st)=>zb3 body live nb n (st.only live nb)
 | some (.exit i,st)=>some (.exit i,st)
 | some (.ret,st)=>some (.ret,st)
 | none=>none
theorem zl9 {body:St→Option (Out × St)} {live:List Nat} {nb n:Nat} {st:St}:zb3 body live nb (n+1) st=yia body live nb n (body st):=by
 simp only [zb3]
 cases body st with
 | none=>rfl
 | some p=>obtain ⟨o,s⟩:=p;cases o<;>rfl
theorem zma {body:St→Option (Out × St)} {live:List Nat} {nb n:Nat} {st:St}:yia body live nb n (some (.normal,st))=zb3 body live nb n (st.only live nb):=rfl
theorem zub {body:St→Option (Out × St)} {live:List Nat} {nb n i:Nat} {st:St}:yia body live nb n (some (.exit i,st))=some (.exit i,st):=rfl
theorem zmb {α:Type} {body:St→Option (Out × St)} {live:List Nat} {nb:Nat} (head:α→St) (I:α→Prop) (μ:α→Nat) (res:α→Out × St)
 (h:∀ a,I a→(∃ o s,body (head a)=some (o,s)∧o≠.normal∧res a=(o,s))∨∃ s b,body (head a)=some (.normal,s)∧s.only live nb=head b∧I b∧μ b<μ a∧res b=res a):∀ {n:Nat} {a:α},I a→μ a<n→zb3 body live nb n (head a)=some (res a)
 | 0,a,_,hm=>by omega
 | n+1,a,hi,hm=>by
   rw [zl9]
   rcases h a hi with ⟨o,s,h1,h2,h3⟩ | ⟨s,b,h1,h2,h3,h4,h5⟩
   ·rw [h1,h3]
    cases o with
    | normal=>exact absurd rfl h2
    | exit i=>rfl
    | ret=>rfl
   ·rw [h1,zma,h2,← h5]
    exact zmb head I μ res h h3 (by omega)
end Nun
end
section
namespace Nun
open Go Go.RowKit Go.Proofs Go.Proofs.YtmpiobfdchlikaaGreatDoor
variable {lib:Callee}
theorem zvy {n:Nat} {r:List PV} (h:n<256):bytesOf (.flat (.int .u8 (n:Int))::r)=(bytesOf r).map (UInt8.ofNat n::·):=by
 rw [bytesOf,if_pos (by omega)];rfl
theorem zx1:bytesOf []=some []:=rfl
def cl (m:List (Nat × Nat)):List Loc:=m.map fun q=>.cell q.1 q.2
theorem zc5:∀ m:List (Nat × Nat),zdv (cl m)=cl m
 | []=>rfl
 | q::m=>by show zdv (.cell q.1 q.2::cl m)=_;rw [zo8,zc5 m];rfl
theorem zdg:∀ m:List (Nat × Nat),zho (cl m)=[]
 | []=>rfl
 | q::m=>by show zho (.cell q.1 q.2::cl m)=_;rw [zo9,zdg m]
theorem zd4 {i:Nat}:∀ m:List (Nat × Nat),owns (cl m) (.slot i)=false
 | []=>rfl
 | q::m=>by show owns (.cell q.1 q.2::cl m) (.slot i)=_;rw [zxq,zd4 m]
theorem zea (m:List (Nat × Nat)):∀ l:List Nat,z1d (cl m) l=[]
 | []=>rfl
 | i::l=>by rw [z1e,zd4,zea m l];rfl
theorem zeb {d:Nat}:∀ m:List (Nat × Nat),zag d (cl m)=cl m
 | []=>rfl
 | q::m=>by show zag d (.cell q.1 q.2::cl m)=_;rw [znr,zeb m];rfl
theorem zgc {n:Nat}:∀ m:List (Nat × Nat),(∀ q∈m,q.1<n)→zcq n (cl m)=cl m
 | [],_=>rfl
 | q::m,h=>by
   show zcq n (.cell q.1 q.2::cl m)=_
   rw [zk2,if_pos (h q (by simp)),zgc m fun q hq=>h q (by simp [hq])];rfl
theorem zbx {nb:Nat} {vs:List PV} {bx:zao} (h:bx.length=nb):trim nb vs bx=bx:=by unfold trim;rw [if_pos h]
theorem zql:cl []=[]:=rfl
theorem zmz {b o:Nat}:∀ m:List (Nat × Nat),(∀ q∈m,q≠(b,o))→zfn (.cell b o) (cl m)=cl m
 | [],_=>rfl
 | q::m,h=>by
   show zfn (.cell b o) (.cell q.1 q.2::cl m)=_
   rw [zzh,if_neg (fun k=>h q (by simp) (Prod.ext k.1 k.2)),zmz m fun q hq=>h q (by simp [hq])];rfl
theorem zpb {b o:Nat}:∀ m:List (Nat × Nat),(∀ q∈m,q≠(b,o))→zhp b o 1 (cl m)=cl m
 | [],_=>rfl
 | q::m,h=>by
   show zhp b o 1 (.cell q.1 q.2::cl m)=_
   rw [zt1,if_neg (fun k=>h q (by simp) (Prod.ext k.1 (by omega))),zpb m fun q hq=>h q (by simp [hq])];rfl
theorem zec:∀ a:Str,zia (zhr a)=true
 | []=>rfl
 | c::a=>by show zia (.flat (.int .u8 c.toNat)::zhr a)=true;rw [zin,zec a];rfl
def runS {σ ρ:Type} (step:σ→σ ⊕ ρ) (d:ρ):Nat→σ→ρ
 | 0,_=>d
 | n+1,a=>match step a with
   | .inl b=>runS step d n b
   | .inr r=>r
theorem zc6 {σ ρ:Type} {step:σ→σ ⊕ ρ} {d:ρ} {n:Nat} {a b:σ} (h:step a=.inl b):runS step d (n+1) a=runS step d n b:=by simp only [runS,h]
theorem zca {σ ρ:Type} {step:σ→σ ⊕ ρ} {d r:ρ} {n:Nat} {a:σ} (h:step a=.inr r):runS step d (n+1) a=r:=by simp only [runS,h]
theorem zx2 {σ ρ:Type} {step:σ→σ ⊕ ρ} {d:ρ} {I:σ→Prop} {μ:σ→Nat} (h:∀ a b,I a→step a=.inl b→I b∧μ b<μ a):∀ (n m:Nat) (a:σ),I a→μ a<n→μ a<m→runS step d n a=runS step d m a
 | 0,_,_,_,h1,_=>by omega
 | _,0,_,_,_,h2=>by omega
 | n+1,m+1,a,hi,h1,h2=>by
   cases hs:step a with
   | inl b =>
     obtain ⟨k1,k2⟩:=h a b hi hs
     rw [zc6 hs,zc6 hs]
     exact zx2 h n m b k1 (by omega) (by omega)
   | inr r=>rw [zca hs,zca hs]
theorem zzn {σ ρ:Type} {step:σ→σ ⊕ ρ} {d:ρ} {I:σ→Prop} {μ:σ→Nat} {Q:ρ→Prop} (h:∀ a,I a→match step a with | .inl b=>I b∧μ b<μ a | .inr r=>Q r):∀ (n:Nat) (a:σ),I a→μ a<n→Q (runS step d n a)
 | 0,_,_,h1=>by omega
 | n+1,a,hi,h1=>by
   have hs:=h a hi
   cases hk:step a with
   | inl b=>rw [hk] at hs;rw [zc6 hk];exact zzn h n b hs.1 (by have:=hs.2;omega)
   | inr r=>rw [hk] at hs;rw [zca hk];exact hs
def outS {σ ρ:Type} (head:σ→St) (fin:ρ→Out × St):σ ⊕ ρ→Out × St
 | .inl b=>(.normal,head b)
 | .inr r=>fin r
theorem zzo {σ ρ:Type} {body:St→Option (Out × St)} {live:List Nat} {nb:Nat} (head:σ→St) (step:σ→σ ⊕ ρ) (d:ρ) (fin:ρ→Out × St) (I:σ→Prop) (μ:σ→Nat)
 (hr:∀ a,I a→body (head a)=some (outS head fin (step a))) (ho:∀ a,I a→(head a).only live nb=head a) (hI:∀ a b,I a→step a=.inl b→I b∧μ b<μ a) (hf:∀ r,(fin r).1≠.normal) {n:Nat} (a:σ) (hi:I a) (hn:μ a<n) (hb:μ a<big) :
 zb3 body live nb big (head a)=some (fin (runS step d n a)):=by
 have hloop:=zmb (body:=body) (live:=live) (nb:=nb) head I μ (fun a=>fin (runS step d (μ a+1) a)) (fun a hi=>?_) (n:=big) (a:=a) hi hb
 ·rw [hloop,zx2 hI (μ a+1) n a hi (by omega) hn]
 ·have h1:=hr a hi
  cases hs:step a with
  | inl b =>
    rw [hs] at h1
    obtain ⟨k1,k2⟩:=hI a b hi hs
    refine .inr ⟨head b,b,h1,ho b k1,k1,k2,?_⟩
    rw [zc6 hs,zx2 hI (μ b+1) (μ a) b k1 (by omega) (by omega)]
  | inr r =>
    rw [hs] at h1
    exact .inl ⟨(fin r).1,(fin r).2,h1,hf r,by rw [zca hs]⟩
theorem zmc {p s:Str} (h:p.isPrefixOf s=true):p.length≤s.length:=(List.isPrefixOf_iff_prefix.1 h).length_le
theorem wr64 {k m:Nat} (h:k+m<9223372036854775808):IntKind.i64.wrap ((k:Int)+(m:Int))=((k+m:Nat):Int):=by rw [wrap64 (by omega)];rfl
theorem wr1 {k:Nat} (h:k+1<9223372036854775808):IntKind.i64.wrap ((k:Int)+1)=((k+1:Nat):Int):=wr64 (m:=1) h
theorem zx3 {n:Nat}:∀ {bx by_:zao},zcf n (bx++by_)=(zcf n bx && zcf n by_)
 | [],by_=>by rw [List.nil_append,zqd,Bool.true_and]
 | p::l,by_=>by rw [List.cons_append,zh0,zh0,zx3,Bool.and_assoc]
theorem zuc {b o m:Nat}:∀ r:List (Nat × Nat),(∀ q∈r,q.1<b)→zhp b o m (cl r)=cl r
 | [],_=>rfl
 | q::r,h=>by
   have h1:=h q List.mem_cons_self
   have h2:=zuc (o:=o) (m:=m) r fun x hx=>h x (List.mem_cons_of_mem _ hx)
   show zhp b o m (Loc.cell q.1 q.2::cl r)=Loc.cell q.1 q.2::cl r
   rw [zt1,h2]
   rw [if_neg (by omega)]
mutual
theorem z5x {n m:Nat} (h:n≤m):∀ v:PV,v.low n=true→v.low m=true
 | .ptr b _,k=>by simp only [PV.low,decide_eq_true_eq] at k ⊢;omega
 | .yld b,k=>by simp only [PV.low,decide_eq_true_eq] at k ⊢;omega
 | .bsl b _ _,k=>by simp only [PV.low,decide_eq_true_eq] at k ⊢;omega
 | .slc _ cs,k=>by simp only [PV.low] at k ⊢;exact zke h cs k
 | .agg cs,k=>by simp only [PV.low] at k ⊢;exact zke h cs k
 | .tup cs,k=>by simp only [PV.low] at k ⊢;exact zke h cs k
 | .elt cs,k=>by simp only [PV.low] at k ⊢;exact zke h cs k
 | .clo _ cs,k=>by simp only [PV.low] at k ⊢;exact zke h cs k
 | .lp _ _ _ _ cs,k=>by simp only [PV.low] at k ⊢;exact zke h cs k
 | .flat _,_=>rfl
 | .unk,_=>rfl
theorem zke {n m:Nat} (h:n≤m):∀ l:List PV,lows n l=true→lows m l=true
 | [],_=>rfl
 | v::l,k=>by
   simp only [lows,Bool.and_eq_true] at k ⊢
   exact ⟨z5x h v k.1,zke h l k.2⟩
end
theorem znx {n m:Nat} (h:n≤m):∀ l:zao,zcf n l=true→zcf m l=true
 | [],_=>rfl
 | q::l,hl=>by
   rw [zh0,Bool.and_eq_true] at hl ⊢
   exact ⟨zke h _ hl.1,znx h l hl.2⟩
theorem yib {n:Nat}:∀ r:List (Nat × Nat),(∀ q∈r,q.1<n)→ltO n (cl r)=cl r
 | [],_=>rfl
 | q::r,h=>by
   have h1:=h q List.mem_cons_self
   have h2:=yib (n:=n) r fun x hx=>h x (List.mem_cons_of_mem _ hx)
   show ltO n (Loc.cell q.1 q.2::cl r)=Loc.cell q.1 q.2::cl r
   rw [yfh,if_pos h1,h2]
def zhx {α β:Type} (f:α→Nat→β→α ⊕ (Out × St)) (fin:α→Out × St):α→Nat→List β→Out × St
 | a,_,[]=>fin a
 | a,k,x::t=>match f a k x with
   | .inl a'=>zhx f fin a' (k+1) t
   | .inr r=>r
theorem zzp {α β:Type} {body:St→Option (Out × St)} {live:List Nat} {nb:Nat} (head:α→Nat→St) (L:List β) (I:α→Nat→Prop) (f:α→Nat→β→α ⊕ (Out × St)) (fin:α→Out × St)
 (hr:∀ a k x,I a k→k<L.length→L[k]? =some x→L.drop k=x::L.drop (k+1) →
   (∃ a' s,f a k x=.inl a'∧body (head a k)=some (.normal,s)∧s.only live nb=head a' (k+1)∧I a' (k+1))∨(∃ r,f a k x=.inr r∧body (head a k)=some r∧r.1≠.normal))
 (he:∀ a,I a L.length→body (head a L.length)=some (fin a)∧(fin a).1≠.normal) (a:α) (ha:I a 0) (hL:L.length<big) :
 zb3 body live nb big (head a 0)=some (zhx f fin a 0 L):=by
 have hloop:=zmb (body:=body) (live:=live) (nb:=nb) (fun q:α × Nat=>head q.1 q.2) (fun q=>I q.1 q.2∧q.2≤L.length) (fun q=>L.length - q.2)
  (fun q=>zhx f fin q.1 q.2 (L.drop q.2)) (fun ⟨a,k⟩ ha=>?_) (n:=big) (a:=(a,0)) ⟨ha,Nat.zero_le _⟩ (by dsimp only;omega)
 ·exact hloop
 ·dsimp only at ha ⊢
  obtain ⟨ha,hk⟩:=ha
  by_cases hlt:k<L.length
  ·have hc:L[k]? =some L[k]:=qe hlt
   have hd:L.drop k=L[k]::L.drop (k+1):=List.drop_eq_getElem_cons hlt
   rcases hr a k L[k] ha hlt hc hd with ⟨a',s,h1,h2,h3,h4⟩ | ⟨r,h1,h2,h3⟩
   ·right
    exact ⟨s,(a',k+1),h2,h3,⟨h4,hlt⟩,by dsimp only;omega,by dsimp only;rw [hd,zhx,h1]⟩
   ·left
    exact ⟨r.1,r.2,h2,h3,by rw [hd,zhx,h1]⟩
  ·left
   obtain rfl:k=L.length:=by omega
   obtain ⟨h1,h2⟩:=he a ha
   exact ⟨(fin a).1,(fin a).2,h1,h2,by rw [List.drop_length,zhx]⟩
theorem zhs {α β:Type} {body:St→Option (Out × St)} {live:List Nat} {nb:Nat} (head:α→Nat→St) (L:List β) (I:α→Nat→Prop) (f:α→Nat→β→α ⊕ (Out × St)) (fin:α→Out × St)
 (hr:∀ a k x,I a k→k<L.length→L[k]? =some x→L.drop k=x::L.drop (k+1)→body (head a k)=match f a k x with | .inl a'=>some (.normal,head a' (k+1)) | .inr r=>some r)
 (ho:∀ a k,(head a k).only live nb=head a k) (hI:∀ a k x a',I a k→k<L.length→L[k]? =some x→f a k x=.inl a'→I a' (k+1)) (hn:∀ a k x r,f a k x=.inr r→r.1≠.normal)
 (he:∀ a,I a L.length→body (head a L.length)=some (fin a)) (hf:∀ a,(fin a).1≠.normal) (a:α) (ha:I a 0) (hL:L.length<big) :
 zb3 body live nb big (head a 0)=some (zhx f fin a 0 L) :=
 zzp head L I f fin (fun a k x hi hk hx hd=>by
  have h:=hr a k x hi hk hx hd
  cases hq:f a k x with
  | inl a' =>
    rw [hq] at h
    exact .inl ⟨a',_,rfl,h,ho a' (k+1),hI a k x a' hi hk hx hq⟩
  | inr r =>
    rw [hq] at h
    exact .inr ⟨r,rfl,h,hn a k x r hq⟩) (fun a hi=>⟨he a hi,hf a⟩) a ha hL
theorem zm0 {β:Type} {p:β→Bool} {r:Out × St} {fin:Unit→Out × St}:∀ (L:List β) (k:Nat),zhx (fun (_:Unit) _ x=>if p x then .inl () else .inr r) fin () k L=if L.all p then fin () else r
 | [],k=>rfl
 | x::t,k=>by
   rw [zhx,List.all_cons]
   cases hp:p x with
   | true=>rw [if_pos rfl,Bool.true_and];exact zm0 t _
   | false=>rw [if_neg (by simp),Bool.false_and,if_neg (by simp)]
theorem z5y (s w:Str) (k:Nat) (h:w.length≤s.length - k) (hk:k≤s.length):decide ((s.take (k+w.length)).drop k=w)=w.isPrefixOf (s.drop k):=by
 rw [List.drop_take,Nat.add_sub_cancel_left,Bool.eq_iff_iff,decide_eq_true_eq,List.isPrefixOf_iff_prefix,List.prefix_iff_eq_take]
 exact eq_comm
theorem yb6 (s w:Str) (h:¬ w.length≤s.length):w.isPrefixOf s=false:=by
 rw [Bool.eq_false_iff]
 intro hp
 exact h (List.IsPrefix.length_le (List.isPrefixOf_iff_prefix.1 hp))
def at1 (c:UInt8):Str→Option Nat
 | []=>none
 | x::l=>if x=c then some 0 else (at1 c l).map (·+1)
def zll (lib:Callee):Prop:=∀ (s:Str) (c:UInt8),s.length≤1000000000→lib 32 [.flat (.string (S s)),.flat (.int .u8 c.toNat)] [] []=some ([.flat (.int .i64 (match at1 c s with | some i=>(i:Int) | none=>-1))],false,[],[])
theorem zqm (H:zll lib) (s:Str) (c:UInt8) (h:s.length≤1000000000):evW code lib 32 [.flat (.string (S s)),.flat (.int .u8 c.toNat)] [] []=some ([.flat (.int .i64 (match at1 c s with | some i=>(i:Int) | none=>-1))],false,[],[]) :=
 zd3 (by decide) (by kernel_rfl) (H s c h)
def zas (l:List Str):List PV:=l.map fun x=>.flat (.string (S x))
theorem za0 {l:List Str}:(zas l).length=l.length:=by simp [zas]
theorem zhg {a b:List Str}:zas a++zas b=zas (a++b):=by simp [zas]
theorem ze5:∀ a:List Str,noU8 (zas a)=true
 | []=>rfl
 | c::a=>by show noU8 (.flat (.string (S c))::zas a)=true;rw [zmt,ze5 a];rfl
theorem zam {n:Nat}:∀ a:List Str,lows n (zas a)=true
 | []=>rfl
 | c::a=>by show lows n (.flat (.string (S c))::zas a)=true;simp only [lows,PV.low,zam a,Bool.true_and]
def zqn (lib:Callee):Prop:=∀ s p:Str,s.length≤1000000000→p.length≤1000000000→lib 74 [.flat (.string (S s)),.flat (.string (S p))] [] []=some ([.flat (.bool (p.isPrefixOf s))],false,[],[])
def za4 (s w:Str) (k:Nat):Bool:=decide (k≤s.length) && w.isPrefixOf (s.drop k)
theorem zbf:∀ a:List Str,zcb (zas a)=true
 | []=>rfl
 | c::a=>by show zcb (.flat (.string (S c))::zas a)=true;simp only [zcb,PV.noPtr,zbf a,Bool.true_and]
theorem zd1 {s w:Str} {k:Nat} (hk:k≤s.length):za4 s w k=w.isPrefixOf (s.drop k):=by unfold za4;simp only [hk,decide_true,Bool.true_and]
theorem yec (c:UInt8):∀ s:Str,(at1 c s).isSome=s.contains c
 | []=>rfl
 | x::l=>by
   have:=yec c l
   rw [List.contains_cons,← this]
   by_cases h:x=c
   ·simp only [at1,h,if_true,Option.isSome_some,BEq.rfl,Bool.true_or]
   ·have h2:(c == x)=false:=by simpa using fun e=>h e.symm
    simp only [at1,h,if_false,Option.isSome_map,h2,Bool.false_or]
end Nun
end
section
namespace Nun
open Go
theorem yn7 {a b:Int} (h:a<b):(a<b)=True:=eq_true h
theorem yn8 {a b:Int} (h:b≤a):(a<b)=False:=eq_false (by omega)
theorem yn9 {a b:Int} (h:a≤b):(a≤b)=True:=eq_true h
theorem yoa {a b:Int} (h:b<a):(a≤b)=False:=eq_false (by omega)
theorem yob {a b:Int} (h:a=b):(a=b)=True:=eq_true h
theorem yoc {a b:Int} (h:a<b∨b<a):(a=b)=False:=eq_false (by omega)
theorem yod {a b:Nat} (h:a<b):(a<b)=True:=eq_true h
theorem yoe {a b:Nat} (h:b≤a):(a<b)=False:=eq_false (by omega)
theorem yof {a b:Nat} (h:a≤b):(a≤b)=True:=eq_true h
theorem yog {a b:Nat} (h:b<a):(a≤b)=False:=eq_false (by omega)
theorem yoh {a b:Nat} (h:a=b):(a=b)=True:=eq_true h
theorem yoi {a b:Nat} (h:a<b∨b<a):(a=b)=False:=eq_false (by omega)
theorem yoj {x:Int} (h1:-9223372036854775808≤x) (h2:x<9223372036854775808):IntKind.i64.wrap x=x:=wrap64 ⟨h1,h2⟩
theorem wr_8 {x:Int} (h1:0≤x) (h2:x<256):IntKind.u8.wrap x=x:=yb3 ⟨h1,h2⟩
theorem yok {x:Int} (h1:-2147483648≤x) (h2:x<2147483648):IntKind.i32.wrap x=x:=wrap32 ⟨h1,h2⟩
theorem u8_nat (a b:UInt8):(a=b)=(a.toNat=b.toNat):=by rw [UInt8.toNat_inj]
theorem yed (k m:Nat):((k:Int)+(m:Int)).toNat=k+m:=by omega
theorem tn_1 (k:Nat):((k:Int)+1).toNat=k+1:=by omega
theorem tn_2 (k:Nat):((k:Int)+2).toNat=k+2:=by omega
theorem tn_3 (k:Nat):((k:Int)+3).toNat=k+3:=by omega
theorem z5z {n m:Nat}:((n:Int)≤(no_index (@OfNat.ofNat Int m instOfNat)))=(n≤@OfNat.ofNat Nat m (instOfNatNat m)):=propext Int.ofNat_le
theorem z50 {n m:Nat}:((no_index (@OfNat.ofNat Int m instOfNat))≤(n:Int))=(@OfNat.ofNat Nat m (instOfNatNat m)≤n):=propext Int.ofNat_le
theorem z52 {n m:Nat}:((n:Int)<(no_index (@OfNat.ofNat Int m instOfNat)))=(n<@OfNat.ofNat Nat m (instOfNatNat m)):=propext Int.ofNat_lt
theorem z53 {n m:Nat}:((no_index (@OfNat.ofNat Int m instOfNat))<(n:Int))=(@OfNat.ofNat Nat m (instOfNatNat m)<n):=propext Int.ofNat_lt
theorem z54 {n m:Nat}:((n:Int)=(no_index (@OfNat.ofNat Int m instOfNat)))=(n=@OfNat.ofNat Nat m (instOfNatNat m)):=propext Int.ofNat_inj
theorem z55 {n m:Nat}:((no_index (@OfNat.ofNat Int m instOfNat))=(n:Int))=(@OfNat.ofNat Nat m (instOfNatNat m)=n):=propext Int.ofNat_inj
theorem yee {n m:Nat}:((n:Int)≤(m:Int))=(n≤m):=propext Int.ofNat_le
theorem yef {n m:Nat}:((n:Int)<(m:Int))=(n<m):=propext Int.ofNat_lt
theorem yeg {n m:Nat}:((n:Int)=(m:Int))=(n=m):=propext Int.ofNat_inj
end Nun
namespace Go.Proofs.YtmpiobfdchlikaaGreatDoor
open Go Nun
theorem au:(((((type_of% @z5z)∧((type_of% @z50)∧(type_of% @z52)))∧(((type_of% @z53)∧(type_of% @z54))∧((type_of% @z55)∧(type_of% @yee))))∧((((type_of% @yef)∧(type_of% @yeg))∧((type_of% @yn7)∧(type_of% @yn8)))∧(((type_of% @yn9)∧(type_of% @yoa))∧((type_of% @yob)∧(type_of% @yoc)))))∧(((((type_of% @yod)∧(type_of% @yoe))∧((type_of% @yof)∧(type_of% @yog)))∧(((type_of% @yoh)∧(type_of% @yoi))∧((type_of% @yoj)∧(type_of% @wr_8))))∧((((type_of% @yok)∧(type_of% @zcv))∧((type_of% @yb5)∧(type_of% @z1x)))∧(((type_of% @yn6)∧(type_of% @yh9))∧((type_of% @mk_S)∧(type_of% @zk3))))))∧(((((type_of% @decide_eq_true_eq)∧((type_of% @decide_eq_false_iff_not)∧(type_of% @Int.toNat_natCast)))∧(((type_of% @yed)∧(type_of% @tn_1))∧((type_of% @tn_2)∧(type_of% @tn_3))))∧((((type_of% @zea)∧(type_of% @zd4))∧((type_of% @zc5)∧(type_of% @zeb)))∧(((type_of% @zdg)∧(type_of% @zgc))∧((type_of% @zpb)∧(type_of% @zmz)))))∧(((((type_of% @zfa)∧(type_of% @List.length_set.{0}))∧((type_of% @List.take_length.{0})∧(type_of% @List.set_set.{0})))∧(((type_of% @List.append_assoc.{0})∧(type_of% @Bool.or_true))∧((type_of% @Bool.true_or)∧(type_of% @Bool.or_false))))∧((((type_of% @Bool.false_or)∧(type_of% @Bool.cond_true.{0}))∧((type_of% @Bool.cond_false.{0})∧(type_of% @Int.natCast_add)))∧(((type_of% @Int.natCast_one)∧(type_of% @n0))∧((type_of% @n1)∧(type_of% @n2)))))) :=
 ⟨⟨⟨⟨⟨@z5z,⟨@z50,@z52⟩⟩,⟨⟨@z53,@z54⟩,⟨@z55,@yee⟩⟩⟩,⟨⟨⟨@yef,@yeg⟩,⟨@yn7,@yn8⟩⟩,⟨⟨@yn9,@yoa⟩,⟨@yob,@yoc⟩⟩⟩⟩,⟨⟨⟨⟨@yod,@yoe⟩,⟨@yof,@yog⟩⟩,⟨⟨@yoh,@yoi⟩,⟨@yoj,@wr_8⟩⟩⟩,⟨⟨⟨@yok,@zcv⟩,⟨@yb5,@z1x⟩⟩,⟨⟨@yn6,@yh9⟩,⟨@mk_S,@zk3⟩⟩⟩⟩⟩,⟨⟨⟨⟨@decide_eq_true_eq,⟨@decide_eq_false_iff_not,@Int.toNat_natCast⟩⟩,⟨⟨@yed,@tn_1⟩,⟨@tn_2,@tn_3⟩⟩⟩,⟨⟨⟨@zea,@zd4⟩,⟨@zc5,@zeb⟩⟩,⟨⟨@zdg,@zgc⟩,⟨@zpb,@zmz⟩⟩⟩⟩,⟨⟨⟨⟨@zfa,@List.length_set.{0}⟩,⟨@List.take_length.{0},@List.set_set.{0}⟩⟩,⟨⟨@List.append_assoc.{0},@Bool.or_true⟩,⟨@Bool.true_or,@Bool.or_false⟩⟩⟩,⟨⟨⟨@Bool.false_or,@Bool.cond_true.{0}⟩,⟨@Bool.cond_false.{0},@Int.natCast_add⟩⟩,⟨⟨@Int.natCast_one,@n0⟩,⟨@n1,@n2⟩⟩⟩⟩⟩⟩
end Go.Proofs.YtmpiobfdchlikaaGreatDoor
end
