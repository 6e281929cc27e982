/- LetterSames answers true for all letters: texts of this proof, merged. -/
import Derived.Test.YtmpiobfdchlikaaDoorGc
import Derived.Test.YtmpiobfdchlikaaDoorProg
import Derived.KernelRfl
import Derived.RecoverIn
set_option linter.unusedVariables false
set_option linter.unusedSimpArgs false
section
set_option maxRecDepth 100000
namespace Go.Proofs.YtmpiobfdchlikaaDoor
open Nun
def c_nunciolaw14_LetterSames:CFun:=⟨28,[.inl 4],(.seq (.reg [2,3] [] [⟨some 2,none,.box 38 4 (.t 0)⟩,⟨some 3,none,.box 38 4 (.t 1)⟩,⟨some 4,none,.asg (.c (.flat (.bool false)))⟩]) (.seq (.reg [2,3] [⟨some 5,none,.load true 4 (.t 2)⟩,⟨some 6,none,.call 12 [.t 5,.c (.flat (.int .i64 3))]⟩,⟨some 7,none,.load true 4 (.t 3)⟩] [⟨some 8,none,.call 12 [.t 7,.c (.flat (.int .i64 3))]⟩,⟨none,none,.store 4 (.t 2) (.t 6)⟩,⟨none,none,.store 4 (.t 3) (.t 8)⟩]) (.seq (.reg [4] [⟨some 9,none,.load true 4 (.t 2)⟩,⟨some 10,none,.call 14 [.t 9,.c (.flat (.int .i64 4))]⟩,⟨some 11,none,.load true 4 (.t 3)⟩,⟨some 12,none,.call 14 [.t 11,.c (.flat (.int .i64 4))]⟩,⟨some 13,none,.call 13 [.t 10,.t 12]⟩,⟨some 14,none,.load true 4 (.t 2)⟩,⟨some 15,none,.load true 4 (.t 3)⟩,⟨some 16,none,.call 15 [.t 14,.t 15]⟩,⟨some 17,none,.beq false (.t 13) (.t 16)⟩,⟨some 18,none,.mv (.t 17)⟩,⟨some 19,some ⟨18,true⟩,.load true 4 (.t 2)⟩,⟨some 20,some ⟨18,true⟩,.call 14 [.t 19,.c (.flat (.int .i64 4))]⟩,⟨some 21,some ⟨18,true⟩,.load true 4 (.t 2)⟩] [⟨some 22,some ⟨18,true⟩,.call 14 [.t 21,.c (.flat (.int .i64 4))]⟩,⟨some 23,some ⟨18,true⟩,.call 13 [.t 20,.t 22]⟩,⟨some 24,none,.pick (.t 18) (.t 23) (.c (.flat (.bool false)))⟩,⟨some 25,none,.mv (.t 24)⟩,⟨some 26,some ⟨25,true⟩,.call 11 []⟩,⟨some 27,none,.pick (.t 25) (.t 26) (.c (.flat (.bool false)))⟩,⟨some 4,none,.asg (.t 27)⟩]) (.ret [4])))),[]⟩
def c_nunciolaw14_few:CFun:=⟨8,[.inl 2],(.seq (.reg [0] [] [⟨some 2,none,.asg (.c (.flat (.string ⟨#[]⟩)))⟩]) (.seq (.reg [2] [] [⟨some 3,none,.mv (.t 0)⟩,⟨some 4,none,.mv (.t 0)⟩,⟨some 5,none,.lenS (.t 4)⟩,⟨some 6,none,.mm false (.t 5) (.c (.flat (.int .i64 1200)))⟩,⟨some 7,none,.sliceS (.t 3) .none (.some (.t 6))⟩,⟨some 2,none,.asg (.t 7)⟩]) (.ret [2]))),[]⟩
def c_nunciolaw14_awake:CFun:=⟨36,[.inl 0],(.seq (.reg [] [] [⟨some 0,none,.asg (.c (.flat (.bool false)))⟩]) (.seq (.reg [1,2] [] [⟨some 4,none,.call 6 [.c (.flat (.string ⟨#[67,111,110,116,101,110,116,45,84,121,112,101,58,32,109,117,108,116,105,112,97,114,116,47,109,105,120,101,100,59,32,98,111,117,110,100,97,114,121,61,98,13,10,13,10,45,45,98,13,10,13,10,97,13,10,45,45,98,45,45,13,10]⟩))]⟩,⟨some 3,none,.mv (.t 4)⟩,⟨some 5,none,.ext (.t 3) 0⟩,⟨some 6,none,.ext (.t 3) 1⟩,⟨some 1,none,.alloc 26 [.flat (.slice .none 0 0),.flat (.string ⟨#[]⟩),.flat (.string ⟨#[]⟩),.flat (.slice .none 0 0)]⟩,⟨none,none,.store 4 (.t 1) (.t 5)⟩,⟨some 2,none,.asg (.t 6)⟩]) (.seq (.reg [0] [] [⟨some 7,none,.mv (.t 2)⟩,⟨some 8,none,.bin .eql (.t 7) (.c (.flat (.int .i64 0)))⟩,⟨some 9,none,.mv (.t 8)⟩,⟨some 10,some ⟨9,true⟩,.fadr 1 (.t 1)⟩,⟨some 11,some ⟨9,true⟩,.load false 1 (.t 10)⟩,⟨some 12,some ⟨9,true⟩,.bin .eql (.t 11) (.c (.flat (.string ⟨#[109,117,108,116,105,112,97,114,116,47,109,105,120,101,100]⟩)))⟩,⟨some 13,none,.pick (.t 9) (.t 12) (.c (.flat (.bool false)))⟩,⟨some 14,none,.mv (.t 13)⟩,⟨some 15,some ⟨14,true⟩,.fadr 3 (.t 1)⟩,⟨some 16,some ⟨14,true⟩,.load false 1 (.t 15)⟩,⟨some 17,some ⟨14,true⟩,.len (.t 16)⟩,⟨some 18,some ⟨14,true⟩,.bin .eql (.t 17) (.c (.flat (.int .i64 1)))⟩,⟨some 19,none,.pick (.t 14) (.t 18) (.c (.flat (.bool false)))⟩,⟨some 20,none,.mv (.t 19)⟩,⟨some 21,some ⟨20,true⟩,.fadr 3 (.t 1)⟩,⟨some 22,some ⟨20,true⟩,.load false 1 (.t 21)⟩,⟨some 23,some ⟨20,true⟩,.iadr 4 (.t 22) (.c (.flat (.int .i64 0)))⟩,⟨some 24,some ⟨20,true⟩,.fadr 1 (.t 23)⟩,⟨some 25,some ⟨20,true⟩,.load false 1 (.t 24)⟩,⟨some 26,some ⟨20,true⟩,.bin .eql (.t 25) (.c (.flat (.string ⟨#[116,101,120,116,47,112,108,97,105,110]⟩)))⟩,⟨some 27,none,.pick (.t 20) (.t 26) (.c (.flat (.bool false)))⟩,⟨some 28,none,.mv (.t 27)⟩,⟨some 29,some ⟨28,true⟩,.fadr 3 (.t 1)⟩,⟨some 30,some ⟨28,true⟩,.load false 1 (.t 29)⟩,⟨some 31,some ⟨28,true⟩,.iadr 4 (.t 30) (.c (.flat (.int .i64 0)))⟩,⟨some 32,some ⟨28,true⟩,.fadr 2 (.t 31)⟩,⟨some 33,some ⟨28,true⟩,.load false 1 (.t 32)⟩,⟨some 34,some ⟨28,true⟩,.bin .eql (.t 33) (.c (.flat (.string ⟨#[97]⟩)))⟩,⟨some 35,none,.pick (.t 28) (.t 34) (.c (.flat (.bool false)))⟩,⟨some 0,none,.asg (.t 35)⟩]) (.ret [0])))),[]⟩
def k_nunciolaw14_light_0:CCode:=(.seq (.seq (.reg [1,2,4,5,6,23] [] [⟨some 15,none,.mv (.t 6)⟩,⟨some 16,none,.fadr 0 (.t 2)⟩,⟨some 17,none,.load false 1 (.t 16)⟩,⟨some 18,none,.len (.t 17)⟩,⟨some 19,none,.bin .lss (.t 15) (.t 18)⟩,⟨some 20,none,.mv (.t 19)⟩,⟨some 21,some ⟨20,true⟩,.mv (.t 6)⟩,⟨some 22,some ⟨20,true⟩,.bin .lss (.t 21) (.c (.flat (.int .i64 4)))⟩,⟨some 23,none,.pick (.t 20) (.t 22) (.c (.flat (.bool false)))⟩]) (.cond (.t 23) .skip (.exit 0 [1,2,4,5]))) (.seq (.block 1 (.reg [1,2,4,5,6] [⟨some 26,none,.fadr 0 (.t 5)⟩,⟨some 27,none,.loadA (.t 26)⟩,⟨some 28,none,.fadr 0 (.t 2)⟩,⟨some 29,none,.load false 1 (.t 28)⟩,⟨some 30,none,.mv (.t 6)⟩,⟨some 31,none,.iadr 2 (.t 29) (.t 30)⟩,⟨some 32,none,.load true 2 (.t 31)⟩,⟨some 33,none,.mksl false 1 2 [.flat (.string ⟨#[]⟩),.flat (.string ⟨#[]⟩)] [⟨0,⟨2,.t 32⟩⟩]⟩] [⟨some 34,none,.append false 2 (.t 27) (.t 33)⟩,⟨some 35,none,.fadr 0 (.t 5)⟩,⟨none,none,.store 1 (.t 35) (.t 34)⟩])) (.reg [1,2,4,5,6] [] [⟨some 24,none,.mv (.t 6)⟩,⟨some 25,none,.bin .add (.t 24) (.c (.flat (.int .i64 1)))⟩,⟨some 6,none,.asg (.t 25)⟩])))
def b_nunciolaw14_light_0:CCode:=k_nunciolaw14_light_0
theorem on_nunciolaw14_light_0 {cf:Nun.Callee} {m:Nat} {st:Nun.St}:evC cf m b_nunciolaw14_light_0 st=evC cf m k_nunciolaw14_light_0 st:=rfl
attribute [go_sem] k_nunciolaw14_light_0
def k_nunciolaw14_light_1:CCode:=(.seq (.seq (.reg [1,2,4,5,7,48] [] [⟨some 36,none,.mv (.t 7)⟩,⟨some 37,none,.fadr 3 (.t 2)⟩,⟨some 38,none,.load false 1 (.t 37)⟩,⟨some 39,none,.len (.t 38)⟩,⟨some 40,none,.bin .lss (.t 36) (.t 39)⟩,⟨some 41,none,.mv (.t 40)⟩,⟨some 42,some ⟨41,true⟩,.mv (.t 7)⟩,⟨some 43,some ⟨41,true⟩,.bin .lss (.t 42) (.c (.flat (.int .i64 3)))⟩,⟨some 44,none,.pick (.t 41) (.t 43) (.c (.flat (.bool false)))⟩,⟨some 45,none,.mv (.t 44)⟩,⟨some 46,some ⟨45,true⟩,.mv (.t 1)⟩,⟨some 47,some ⟨45,true⟩,.bin .gtr (.t 46) (.c (.flat (.int .i64 0)))⟩,⟨some 48,none,.pick (.t 45) (.t 47) (.c (.flat (.bool false)))⟩]) (.cond (.t 48) .skip (.exit 2 [4,5]))) (.seq (.block 3 (.reg [1,2,4,5,7] [⟨some 51,none,.fadr 3 (.t 5)⟩,⟨some 52,none,.loadA (.t 51)⟩,⟨some 53,none,.fadr 3 (.t 2)⟩,⟨some 54,none,.load false 1 (.t 53)⟩,⟨some 55,none,.mv (.t 7)⟩,⟨some 56,none,.iadr 4 (.t 54) (.t 55)⟩,⟨some 57,none,.load true 4 (.t 56)⟩,⟨some 58,none,.mv (.t 1)⟩,⟨some 59,none,.bin .sub (.t 58) (.c (.flat (.int .i64 1)))⟩,⟨some 60,none,.call 12 [.t 57,.t 59]⟩,⟨some 61,none,.mksl false 1 4 [.flat (.slice .none 0 0),.flat (.string ⟨#[]⟩),.flat (.string ⟨#[]⟩),.flat (.slice .none 0 0)] [⟨0,⟨4,.t 60⟩⟩]⟩] [⟨some 62,none,.append false 4 (.t 52) (.t 61)⟩,⟨some 63,none,.fadr 3 (.t 5)⟩,⟨none,none,.store 1 (.t 63) (.t 62)⟩])) (.reg [1,2,4,5,7] [] [⟨some 49,none,.mv (.t 7)⟩,⟨some 50,none,.bin .add (.t 49) (.c (.flat (.int .i64 1)))⟩,⟨some 7,none,.asg (.t 50)⟩])))
def b_nunciolaw14_light_1:CCode:=k_nunciolaw14_light_1
theorem on_nunciolaw14_light_1 {cf:Nun.Callee} {m:Nat} {st:Nun.St}:evC cf m b_nunciolaw14_light_1 st=evC cf m k_nunciolaw14_light_1 st:=rfl
attribute [go_sem] k_nunciolaw14_light_1
def c_nunciolaw14_light:CFun:=⟨65,[.inr ⟨4,⟨true,4⟩⟩],(.seq (.reg [1,2,4] [] [⟨some 2,none,.box 38 4 (.t 0)⟩,⟨some 4,none,.alloc 38 [.flat (.slice .none 0 0),.flat (.string ⟨#[]⟩),.flat (.string ⟨#[]⟩),.flat (.slice .none 0 0)]⟩]) (.seq (.regT [1,2,4,5] [⟨some 8,none,.fadr 1 (.t 2)⟩,⟨some 9,none,.load false 1 (.t 8)⟩,⟨some 11,none,.fadr 2 (.t 2)⟩] (.two ⟨some 10,none,.call 5 [.t 9]⟩ (.two ⟨some 12,none,.load false 1 (.t 11)⟩ (.two ⟨some 13,none,.call 5 [.t 12]⟩ (.two ⟨some 14,none,.build [.flat (.slice .none 0 0),.flat (.string ⟨#[]⟩),.flat (.string ⟨#[]⟩),.flat (.slice .none 0 0)] [⟨1,⟨1,.t 10⟩⟩,⟨2,⟨1,.t 13⟩⟩]⟩ (.one ⟨some 5,none,.alloc 38 [.flat (.slice .none 0 0),.flat (.string ⟨#[]⟩),.flat (.string ⟨#[]⟩),.flat (.slice .none 0 0)]⟩ (.one ⟨none,none,.store 4 (.t 5) (.t 14)⟩ .done)) (.one ⟨some 5,none,.alloc 38 [.flat (.slice .none 0 0),.flat (.string ⟨#[]⟩),.flat (.string ⟨#[]⟩),.flat (.slice .none 0 0)]⟩ (.one ⟨some 14,none,.build [.flat (.slice .none 0 0),.flat (.string ⟨#[]⟩),.flat (.string ⟨#[]⟩),.flat (.slice .none 0 0)] [⟨1,⟨1,.t 10⟩⟩,⟨2,⟨1,.t 13⟩⟩]⟩ (.one ⟨none,none,.store 4 (.t 5) (.t 14)⟩ .done)))) (.one ⟨some 5,none,.alloc 38 [.flat (.slice .none 0 0),.flat (.string ⟨#[]⟩),.flat (.string ⟨#[]⟩),.flat (.slice .none 0 0)]⟩ (.one ⟨some 13,none,.call 5 [.t 12]⟩ (.one ⟨some 14,none,.build [.flat (.slice .none 0 0),.flat (.string ⟨#[]⟩),.flat (.string ⟨#[]⟩),.flat (.slice .none 0 0)] [⟨1,⟨1,.t 10⟩⟩,⟨2,⟨1,.t 13⟩⟩]⟩ (.one ⟨none,none,.store 4 (.t 5) (.t 14)⟩ .done))))) (.one ⟨some 5,none,.alloc 38 [.flat (.slice .none 0 0),.flat (.string ⟨#[]⟩),.flat (.string ⟨#[]⟩),.flat (.slice .none 0 0)]⟩ (.one ⟨some 12,none,.load false 1 (.t 11)⟩ (.one ⟨some 13,none,.call 5 [.t 12]⟩ (.one ⟨some 14,none,.build [.flat (.slice .none 0 0),.flat (.string ⟨#[]⟩),.flat (.string ⟨#[]⟩),.flat (.slice .none 0 0)] [⟨1,⟨1,.t 10⟩⟩,⟨2,⟨1,.t 13⟩⟩]⟩ (.one ⟨none,none,.store 4 (.t 5) (.t 14)⟩ .done)))))) (.two ⟨some 12,none,.load false 1 (.t 11)⟩ (.two ⟨some 10,none,.call 5 [.t 9]⟩ (.two ⟨some 13,none,.call 5 [.t 12]⟩ (.two ⟨some 14,none,.build [.flat (.slice .none 0 0),.flat (.string ⟨#[]⟩),.flat (.string ⟨#[]⟩),.flat (.slice .none 0 0)] [⟨1,⟨1,.t 10⟩⟩,⟨2,⟨1,.t 13⟩⟩]⟩ (.one ⟨some 5,none,.alloc 38 [.flat (.slice .none 0 0),.flat (.string ⟨#[]⟩),.flat (.string ⟨#[]⟩),.flat (.slice .none 0 0)]⟩ (.one ⟨none,none,.store 4 (.t 5) (.t 14)⟩ .done)) (.one ⟨some 5,none,.alloc 38 [.flat (.slice .none 0 0),.flat (.string ⟨#[]⟩),.flat (.string ⟨#[]⟩),.flat (.slice .none 0 0)]⟩ (.one ⟨some 14,none,.build [.flat (.slice .none 0 0),.flat (.string ⟨#[]⟩),.flat (.string ⟨#[]⟩),.flat (.slice .none 0 0)] [⟨1,⟨1,.t 10⟩⟩,⟨2,⟨1,.t 13⟩⟩]⟩ (.one ⟨none,none,.store 4 (.t 5) (.t 14)⟩ .done)))) (.one ⟨some 5,none,.alloc 38 [.flat (.slice .none 0 0),.flat (.string ⟨#[]⟩),.flat (.string ⟨#[]⟩),.flat (.slice .none 0 0)]⟩ (.one ⟨some 13,none,.call 5 [.t 12]⟩ (.one ⟨some 14,none,.build [.flat (.slice .none 0 0),.flat (.string ⟨#[]⟩),.flat (.string ⟨#[]⟩),.flat (.slice .none 0 0)] [⟨1,⟨1,.t 10⟩⟩,⟨2,⟨1,.t 13⟩⟩]⟩ (.one ⟨none,none,.store 4 (.t 5) (.t 14)⟩ .done))))) (.one ⟨some 5,none,.alloc 38 [.flat (.slice .none 0 0),.flat (.string ⟨#[]⟩),.flat (.string ⟨#[]⟩),.flat (.slice .none 0 0)]⟩ (.one ⟨some 10,none,.call 5 [.t 9]⟩ (.one ⟨some 13,none,.call 5 [.t 12]⟩ (.one ⟨some 14,none,.build [.flat (.slice .none 0 0),.flat (.string ⟨#[]⟩),.flat (.string ⟨#[]⟩),.flat (.slice .none 0 0)] [⟨1,⟨1,.t 10⟩⟩,⟨2,⟨1,.t 13⟩⟩]⟩ (.one ⟨none,none,.store 4 (.t 5) (.t 14)⟩ .done)))))) (.one ⟨some 5,none,.alloc 38 [.flat (.slice .none 0 0),.flat (.string ⟨#[]⟩),.flat (.string ⟨#[]⟩),.flat (.slice .none 0 0)]⟩ (.two ⟨some 10,none,.call 5 [.t 9]⟩ (.one ⟨some 12,none,.load false 1 (.t 11)⟩ (.one ⟨some 13,none,.call 5 [.t 12]⟩ (.one ⟨some 14,none,.build [.flat (.slice .none 0 0),.flat (.string ⟨#[]⟩),.flat (.string ⟨#[]⟩),.flat (.slice .none 0 0)] [⟨1,⟨1,.t 10⟩⟩,⟨2,⟨1,.t 13⟩⟩]⟩ (.one ⟨none,none,.store 4 (.t 5) (.t 14)⟩ .done)))) (.one ⟨some 12,none,.load false 1 (.t 11)⟩ (.one ⟨some 10,none,.call 5 [.t 9]⟩ (.one ⟨some 13,none,.call 5 [.t 12]⟩ (.one ⟨some 14,none,.build [.flat (.slice .none 0 0),.flat (.string ⟨#[]⟩),.flat (.string ⟨#[]⟩),.flat (.slice .none 0 0)] [⟨1,⟨1,.t 10⟩⟩,⟨2,⟨1,.t 13⟩⟩]⟩ (.one ⟨none,none,.store 4 (.t 5) (.t 14)⟩ .done)))))))))) (.seq (.seq (.reg [1,2,4,5,6] [] [⟨some 6,none,.asg (.c (.flat (.int .i64 0)))⟩]) (.block 0 (.loop [1,2,4,5,6] b_nunciolaw14_light_0))) (.seq (.seq (.reg [1,2,4,5,7] [] [⟨some 7,none,.asg (.c (.flat (.int .i64 0)))⟩]) (.block 2 (.loop [1,2,4,5,7] b_nunciolaw14_light_1))) (.seq (.reg [4] [] [⟨some 64,none,.load true 4 (.t 5)⟩,⟨none,none,.store 4 (.t 4) (.t 64)⟩]) (.ret [4])))))),[]⟩
def k_nunciolaw14_mine_0:CCode:=(.seq (.seq (.reg [1,2,4,5,6,17] [] [⟨some 13,none,.mv (.t 6)⟩,⟨some 14,none,.fadr 0 (.t 2)⟩,⟨some 15,none,.load false 1 (.t 14)⟩,⟨some 16,none,.len (.t 15)⟩,⟨some 17,none,.bin .lss (.t 13) (.t 16)⟩]) (.cond (.t 17) .skip (.exit 0 [1,2,4,5]))) (.seq (.block 1 (.reg [1,2,4,5,6] [⟨some 20,none,.fadr 0 (.t 5)⟩,⟨some 21,none,.loadA (.t 20)⟩,⟨some 22,none,.fadr 0 (.t 2)⟩,⟨some 23,none,.load false 1 (.t 22)⟩,⟨some 24,none,.mv (.t 6)⟩,⟨some 25,none,.iadr 2 (.t 23) (.t 24)⟩,⟨some 26,none,.fadr 0 (.t 25)⟩,⟨some 27,none,.load false 1 (.t 26)⟩,⟨some 28,none,.fadr 0 (.t 2)⟩,⟨some 29,none,.load false 1 (.t 28)⟩,⟨some 30,none,.mv (.t 6)⟩,⟨some 31,none,.iadr 2 (.t 29) (.t 30)⟩,⟨some 32,none,.fadr 1 (.t 31)⟩,⟨some 33,none,.load false 1 (.t 32)⟩,⟨some 34,none,.build [.flat (.string ⟨#[]⟩),.flat (.string ⟨#[]⟩)] [⟨0,⟨1,.t 27⟩⟩,⟨1,⟨1,.t 33⟩⟩]⟩,⟨some 35,none,.mksl false 1 2 [.flat (.string ⟨#[]⟩),.flat (.string ⟨#[]⟩)] [⟨0,⟨2,.t 34⟩⟩]⟩] [⟨some 36,none,.append false 2 (.t 21) (.t 35)⟩,⟨some 37,none,.fadr 0 (.t 5)⟩,⟨none,none,.store 1 (.t 37) (.t 36)⟩])) (.reg [1,2,4,5,6] [] [⟨some 18,none,.mv (.t 6)⟩,⟨some 19,none,.bin .add (.t 18) (.c (.flat (.int .i64 1)))⟩,⟨some 6,none,.asg (.t 19)⟩])))
def b_nunciolaw14_mine_0:CCode:=k_nunciolaw14_mine_0
theorem on_nunciolaw14_mine_0 {cf:Nun.Callee} {m:Nat} {st:Nun.St}:evC cf m b_nunciolaw14_mine_0 st=evC cf m k_nunciolaw14_mine_0 st:=rfl
attribute [go_sem] k_nunciolaw14_mine_0
def k_nunciolaw14_mine_1:CCode:=(.seq (.seq (.reg [1,2,4,5,7,46] [] [⟨some 38,none,.mv (.t 7)⟩,⟨some 39,none,.fadr 3 (.t 2)⟩,⟨some 40,none,.load false 1 (.t 39)⟩,⟨some 41,none,.len (.t 40)⟩,⟨some 42,none,.bin .lss (.t 38) (.t 41)⟩,⟨some 43,none,.mv (.t 42)⟩,⟨some 44,some ⟨43,true⟩,.mv (.t 1)⟩,⟨some 45,some ⟨43,true⟩,.bin .gtr (.t 44) (.c (.flat (.int .i64 0)))⟩,⟨some 46,none,.pick (.t 43) (.t 45) (.c (.flat (.bool false)))⟩]) (.cond (.t 46) .skip (.exit 2 [4,5]))) (.seq (.block 3 (.reg [1,2,4,5,7] [⟨some 49,none,.fadr 3 (.t 5)⟩,⟨some 50,none,.loadA (.t 49)⟩,⟨some 51,none,.fadr 3 (.t 2)⟩,⟨some 52,none,.load false 1 (.t 51)⟩,⟨some 53,none,.mv (.t 7)⟩,⟨some 54,none,.iadr 4 (.t 52) (.t 53)⟩,⟨some 55,none,.load true 4 (.t 54)⟩,⟨some 56,none,.mv (.t 1)⟩,⟨some 57,none,.bin .sub (.t 56) (.c (.flat (.int .i64 1)))⟩,⟨some 58,none,.call 14 [.t 55,.t 57]⟩,⟨some 59,none,.mksl false 1 4 [.flat (.slice .none 0 0),.flat (.string ⟨#[]⟩),.flat (.string ⟨#[]⟩),.flat (.slice .none 0 0)] [⟨0,⟨4,.t 58⟩⟩]⟩] [⟨some 60,none,.append false 4 (.t 50) (.t 59)⟩,⟨some 61,none,.fadr 3 (.t 5)⟩,⟨none,none,.store 1 (.t 61) (.t 60)⟩])) (.reg [1,2,4,5,7] [] [⟨some 47,none,.mv (.t 7)⟩,⟨some 48,none,.bin .add (.t 47) (.c (.flat (.int .i64 1)))⟩,⟨some 7,none,.asg (.t 48)⟩])))
def b_nunciolaw14_mine_1:CCode:=k_nunciolaw14_mine_1
theorem on_nunciolaw14_mine_1 {cf:Nun.Callee} {m:Nat} {st:Nun.St}:evC cf m b_nunciolaw14_mine_1 st=evC cf m k_nunciolaw14_mine_1 st:=rfl
attribute [go_sem] k_nunciolaw14_mine_1
def c_nunciolaw14_mine:CFun:=⟨63,[.inr ⟨4,⟨true,4⟩⟩],(.seq (.reg [1,2,4] [] [⟨some 2,none,.box 38 4 (.t 0)⟩,⟨some 4,none,.alloc 26 [.flat (.slice .none 0 0),.flat (.string ⟨#[]⟩),.flat (.string ⟨#[]⟩),.flat (.slice .none 0 0)]⟩]) (.seq (.reg [1,2,4,5] [] [⟨some 8,none,.fadr 1 (.t 2)⟩,⟨some 9,none,.load false 1 (.t 8)⟩,⟨some 10,none,.fadr 2 (.t 2)⟩,⟨some 11,none,.load false 1 (.t 10)⟩,⟨some 12,none,.build [.flat (.slice .none 0 0),.flat (.string ⟨#[]⟩),.flat (.string ⟨#[]⟩),.flat (.slice .none 0 0)] [⟨1,⟨1,.t 9⟩⟩,⟨2,⟨1,.t 11⟩⟩]⟩,⟨some 5,none,.alloc 26 [.flat (.slice .none 0 0),.flat (.string ⟨#[]⟩),.flat (.string ⟨#[]⟩),.flat (.slice .none 0 0)]⟩,⟨none,none,.store 4 (.t 5) (.t 12)⟩]) (.seq (.seq (.reg [1,2,4,5,6] [] [⟨some 6,none,.asg (.c (.flat (.int .i64 0)))⟩]) (.block 0 (.loop [1,2,4,5,6] b_nunciolaw14_mine_0))) (.seq (.seq (.reg [1,2,4,5,7] [] [⟨some 7,none,.asg (.c (.flat (.int .i64 0)))⟩]) (.block 2 (.loop [1,2,4,5,7] b_nunciolaw14_mine_1))) (.seq (.reg [4] [] [⟨some 62,none,.load true 4 (.t 5)⟩,⟨none,none,.store 4 (.t 4) (.t 62)⟩]) (.ret [4])))))),[]⟩
def c_letter_Same:CFun:=⟨31,[.inl 4],(.seq (.reg [2,3] [] [⟨some 2,none,.box 26 4 (.t 0)⟩,⟨some 3,none,.box 26 4 (.t 1)⟩,⟨some 4,none,.asg (.c (.flat (.bool false)))⟩]) (.seq (.reg [4] [] [⟨some 5,none,.fadr 1 (.t 2)⟩,⟨some 6,none,.load false 1 (.t 5)⟩,⟨some 7,none,.fadr 1 (.t 3)⟩,⟨some 8,none,.load false 1 (.t 7)⟩,⟨some 9,none,.bin .eql (.t 6) (.t 8)⟩,⟨some 10,none,.mv (.t 9)⟩,⟨some 11,some ⟨10,true⟩,.fadr 2 (.t 2)⟩,⟨some 12,some ⟨10,true⟩,.load false 1 (.t 11)⟩,⟨some 13,some ⟨10,true⟩,.fadr 2 (.t 3)⟩,⟨some 14,some ⟨10,true⟩,.load false 1 (.t 13)⟩,⟨some 15,some ⟨10,true⟩,.bin .eql (.t 12) (.t 14)⟩,⟨some 16,none,.pick (.t 10) (.t 15) (.c (.flat (.bool false)))⟩,⟨some 17,none,.mv (.t 16)⟩,⟨some 18,some ⟨17,true⟩,.fadr 0 (.t 2)⟩,⟨some 19,some ⟨17,true⟩,.load false 1 (.t 18)⟩,⟨some 20,some ⟨17,true⟩,.fadr 0 (.t 3)⟩,⟨some 21,some ⟨17,true⟩,.load false 1 (.t 20)⟩,⟨some 22,some ⟨17,true⟩,.call 21 [.t 19,.t 21]⟩,⟨some 23,none,.pick (.t 17) (.t 22) (.c (.flat (.bool false)))⟩,⟨some 24,none,.mv (.t 23)⟩,⟨some 25,some ⟨24,true⟩,.fadr 3 (.t 2)⟩,⟨some 26,some ⟨24,true⟩,.load false 1 (.t 25)⟩,⟨some 27,some ⟨24,true⟩,.fadr 3 (.t 3)⟩,⟨some 28,some ⟨24,true⟩,.load false 1 (.t 27)⟩,⟨some 29,some ⟨24,true⟩,.call 22 [.t 26,.t 28,.c (.clo 13 [])]⟩,⟨some 30,none,.pick (.t 24) (.t 29) (.c (.flat (.bool false)))⟩,⟨some 4,none,.asg (.t 30)⟩]) (.ret [4]))),[]⟩
def k_n14_Same_0:CCode:=(.seq (.seq (.reg [2,3,5,39] [] [⟨some 35,none,.mv (.t 5)⟩,⟨some 36,none,.fadr 3 (.t 2)⟩,⟨some 37,none,.load false 1 (.t 36)⟩,⟨some 38,none,.len (.t 37)⟩,⟨some 39,none,.bin .lss (.t 35) (.t 38)⟩]) (.cond (.t 39) .skip (.exit 0 []))) (.seq (.block 1 (.seq (.reg [2,3,5,53] [⟨some 42,none,.fadr 3 (.t 2)⟩,⟨some 43,none,.load false 1 (.t 42)⟩,⟨some 44,none,.mv (.t 5)⟩,⟨some 45,none,.iadr 4 (.t 43) (.t 44)⟩,⟨some 46,none,.load true 4 (.t 45)⟩,⟨some 47,none,.fadr 3 (.t 3)⟩,⟨some 48,none,.load false 1 (.t 47)⟩,⟨some 49,none,.mv (.t 5)⟩,⟨some 50,none,.iadr 4 (.t 48) (.t 49)⟩,⟨some 51,none,.load true 4 (.t 50)⟩] [⟨some 52,none,.call 15 [.t 46,.t 51]⟩,⟨some 53,none,.un .not (.t 52)⟩]) (.cond (.t 53) (.seq (.reg [4] [] [⟨some 4,none,.asg (.c (.flat (.bool false)))⟩]) (.ret [4])) .skip))) (.reg [2,3,5] [] [⟨some 40,none,.mv (.t 5)⟩,⟨some 41,none,.bin .add (.t 40) (.c (.flat (.int .i64 1)))⟩,⟨some 5,none,.asg (.t 41)⟩])))
def b_n14_Same_0:CCode:=k_n14_Same_0
theorem on_n14_Same_0 {cf:Nun.Callee} {m:Nat} {st:Nun.St}:evC cf m b_n14_Same_0 st=evC cf m k_n14_Same_0 st:=rfl
attribute [go_sem] k_n14_Same_0
def c_n14_Same:CFun:=⟨54,[.inl 4],(.seq (.reg [2,3] [] [⟨some 2,none,.box 38 4 (.t 0)⟩,⟨some 3,none,.box 38 4 (.t 1)⟩,⟨some 4,none,.asg (.c (.flat (.bool false)))⟩]) (.seq (.seq (.reg [2,3,34] [] [⟨some 6,none,.fadr 1 (.t 2)⟩,⟨some 7,none,.load false 1 (.t 6)⟩,⟨some 8,none,.fadr 1 (.t 3)⟩,⟨some 9,none,.load false 1 (.t 8)⟩,⟨some 10,none,.bin .neq (.t 7) (.t 9)⟩,⟨some 11,none,.mv (.t 10)⟩,⟨some 12,some ⟨11,false⟩,.fadr 2 (.t 2)⟩,⟨some 13,some ⟨11,false⟩,.load false 1 (.t 12)⟩,⟨some 14,some ⟨11,false⟩,.fadr 2 (.t 3)⟩,⟨some 15,some ⟨11,false⟩,.load false 1 (.t 14)⟩,⟨some 16,some ⟨11,false⟩,.bin .neq (.t 13) (.t 15)⟩,⟨some 17,none,.pick (.t 11) (.c (.flat (.bool true))) (.t 16)⟩,⟨some 18,none,.mv (.t 17)⟩,⟨some 19,some ⟨18,false⟩,.fadr 0 (.t 2)⟩,⟨some 20,some ⟨18,false⟩,.load false 1 (.t 19)⟩,⟨some 21,some ⟨18,false⟩,.fadr 0 (.t 3)⟩,⟨some 22,some ⟨18,false⟩,.load false 1 (.t 21)⟩,⟨some 23,some ⟨18,false⟩,.call 23 [.t 20,.t 22]⟩,⟨some 24,some ⟨18,false⟩,.un .not (.t 23)⟩,⟨some 25,none,.pick (.t 18) (.c (.flat (.bool true))) (.t 24)⟩,⟨some 26,none,.mv (.t 25)⟩,⟨some 27,some ⟨26,false⟩,.fadr 3 (.t 2)⟩,⟨some 28,some ⟨26,false⟩,.load false 1 (.t 27)⟩,⟨some 29,some ⟨26,false⟩,.len (.t 28)⟩,⟨some 30,some ⟨26,false⟩,.fadr 3 (.t 3)⟩,⟨some 31,some ⟨26,false⟩,.load false 1 (.t 30)⟩,⟨some 32,some ⟨26,false⟩,.len (.t 31)⟩,⟨some 33,some ⟨26,false⟩,.bin .neq (.t 29) (.t 32)⟩,⟨some 34,none,.pick (.t 26) (.c (.flat (.bool true))) (.t 33)⟩]) (.cond (.t 34) (.seq (.reg [4] [] [⟨some 4,none,.asg (.c (.flat (.bool false)))⟩]) (.ret [4])) .skip)) (.seq (.seq (.reg [2,3,5] [] [⟨some 5,none,.asg (.c (.flat (.int .i64 0)))⟩]) (.block 0 (.loop [2,3,5] b_n14_Same_0))) (.seq (.reg [4] [] [⟨some 4,none,.asg (.c (.flat (.bool true)))⟩]) (.ret [4]))))),[]⟩
def k_n13_Same_0:CCode:=(.seq (.seq (.reg [0,1,5,14] [] [⟨some 11,none,.mv (.t 5)⟩,⟨some 12,none,.mv (.t 0)⟩,⟨some 13,none,.len (.t 12)⟩,⟨some 14,none,.bin .lss (.t 11) (.t 13)⟩]) (.cond (.t 14) .skip (.exit 0 []))) (.seq (.block 1 (.seq (.reg [0,1,5,40] [⟨some 17,none,.mv (.t 0)⟩,⟨some 18,none,.mv (.t 5)⟩,⟨some 19,none,.iadr 2 (.t 17) (.t 18)⟩,⟨some 20,none,.fadr 0 (.t 19)⟩,⟨some 21,none,.load false 1 (.t 20)⟩,⟨some 22,none,.mv (.t 1)⟩,⟨some 23,none,.mv (.t 5)⟩,⟨some 24,none,.iadr 2 (.t 22) (.t 23)⟩,⟨some 25,none,.fadr 0 (.t 24)⟩,⟨some 26,none,.load false 1 (.t 25)⟩,⟨some 27,none,.bin .neq (.t 21) (.t 26)⟩,⟨some 28,none,.mv (.t 27)⟩,⟨some 29,some ⟨28,false⟩,.mv (.t 0)⟩,⟨some 30,some ⟨28,false⟩,.mv (.t 5)⟩,⟨some 31,some ⟨28,false⟩,.iadr 2 (.t 29) (.t 30)⟩,⟨some 32,some ⟨28,false⟩,.fadr 1 (.t 31)⟩,⟨some 33,some ⟨28,false⟩,.load false 1 (.t 32)⟩,⟨some 34,some ⟨28,false⟩,.mv (.t 1)⟩,⟨some 35,some ⟨28,false⟩,.mv (.t 5)⟩,⟨some 36,some ⟨28,false⟩,.iadr 2 (.t 34) (.t 35)⟩,⟨some 37,some ⟨28,false⟩,.fadr 1 (.t 36)⟩,⟨some 38,some ⟨28,false⟩,.load false 1 (.t 37)⟩] [⟨some 39,some ⟨28,false⟩,.bin .neq (.t 33) (.t 38)⟩,⟨some 40,none,.pick (.t 28) (.c (.flat (.bool true))) (.t 39)⟩]) (.cond (.t 40) (.seq (.reg [4] [] [⟨some 4,none,.asg (.c (.flat (.bool false)))⟩]) (.ret [4])) .skip))) (.reg [0,1,5] [] [⟨some 15,none,.mv (.t 5)⟩,⟨some 16,none,.bin .add (.t 15) (.c (.flat (.int .i64 1)))⟩,⟨some 5,none,.asg (.t 16)⟩])))
def b_n13_Same_0:CCode:=k_n13_Same_0
theorem on_n13_Same_0 {cf:Nun.Callee} {m:Nat} {st:Nun.St}:evC cf m b_n13_Same_0 st=evC cf m k_n13_Same_0 st:=rfl
attribute [go_sem] k_n13_Same_0
def c_n13_Same:CFun:=⟨41,[.inl 4],(.seq (.reg [0,1] [] [⟨some 4,none,.asg (.c (.flat (.bool false)))⟩]) (.seq (.seq (.reg [0,1,10] [] [⟨some 6,none,.mv (.t 0)⟩,⟨some 7,none,.len (.t 6)⟩,⟨some 8,none,.mv (.t 1)⟩,⟨some 9,none,.len (.t 8)⟩,⟨some 10,none,.bin .neq (.t 7) (.t 9)⟩]) (.cond (.t 10) (.seq (.reg [4] [] [⟨some 4,none,.asg (.c (.flat (.bool false)))⟩]) (.ret [4])) .skip)) (.seq (.seq (.reg [0,1,5] [] [⟨some 5,none,.asg (.c (.flat (.int .i64 0)))⟩]) (.block 0 (.loop [0,1,5] b_n13_Same_0))) (.seq (.reg [4] [] [⟨some 4,none,.asg (.c (.flat (.bool true)))⟩]) (.ret [4]))))),[]⟩
def k_slices_Equal_head_Field_head_Field_0:CCode:=(.seq (.reg [0,1,12,13,14] [] [⟨some 14,none,.bin .lss (.t 13) (.t 12)⟩]) (.seq (.cond (.t 14) .skip (.exit 0 [])) (.seq (.block 1 (.seq (.reg [0,1,5,12,13] [] [⟨some 15,none,.mv (.t 13)⟩,⟨some 5,none,.asg (.t 15)⟩]) (.seq (.reg [0,1,12,13,24] [⟨some 16,none,.mv (.t 0)⟩,⟨some 17,none,.mv (.t 5)⟩,⟨some 18,none,.iadr 2 (.t 16) (.t 17)⟩,⟨some 19,none,.load true 2 (.t 18)⟩,⟨some 20,none,.mv (.t 1)⟩,⟨some 21,none,.mv (.t 5)⟩,⟨some 22,none,.iadr 2 (.t 20) (.t 21)⟩,⟨some 23,none,.load true 2 (.t 22)⟩] [⟨some 24,none,.eqS true [.s,.s] (.t 19) (.t 23)⟩]) (.cond (.t 24) (.seq (.reg [4] [] [⟨some 4,none,.asg (.c (.flat (.bool false)))⟩]) (.ret [4])) .skip)))) (.reg [0,1,12,13] [] [⟨some 25,none,.bin .add (.t 13) (.c (.flat (.int .i64 1)))⟩,⟨some 13,none,.mv (.t 25)⟩]))))
def b_slices_Equal_head_Field_head_Field_0:CCode:=k_slices_Equal_head_Field_head_Field_0
theorem on_slices_Equal_head_Field_head_Field_0 {cf:Nun.Callee} {m:Nat} {st:Nun.St}:evC cf m b_slices_Equal_head_Field_head_Field_0 st=evC cf m k_slices_Equal_head_Field_head_Field_0 st:=rfl
attribute [go_sem] k_slices_Equal_head_Field_head_Field_0
def c_slices_Equal_head_Field_head_Field:CFun:=⟨26,[.inl 4],(.seq (.reg [0,1] [] [⟨some 4,none,.asg (.c (.flat (.bool false)))⟩]) (.seq (.seq (.reg [0,1,10] [] [⟨some 6,none,.mv (.t 0)⟩,⟨some 7,none,.len (.t 6)⟩,⟨some 8,none,.mv (.t 1)⟩,⟨some 9,none,.len (.t 8)⟩,⟨some 10,none,.bin .neq (.t 7) (.t 9)⟩]) (.cond (.t 10) (.seq (.reg [4] [] [⟨some 4,none,.asg (.c (.flat (.bool false)))⟩]) (.ret [4])) .skip)) (.seq (.seq (.reg [0,1,12,13] [] [⟨some 11,none,.mv (.t 0)⟩,⟨some 12,none,.len (.t 11)⟩,⟨some 13,none,.mv (.c (.flat (.int .i64 0)))⟩]) (.block 0 (.loop [0,1,12,13] b_slices_Equal_head_Field_head_Field_0))) (.seq (.reg [4] [] [⟨some 4,none,.asg (.c (.flat (.bool true)))⟩]) (.ret [4]))))),[]⟩
def k_slices_EqualFunc_letter_Part_letter_Part_letter_Part_letter_Part_0:CCode:=(.seq (.reg [1,2,15,16,17,18] [] [⟨some 18,none,.bin .lss (.t 17) (.t 16)⟩]) (.seq (.cond (.t 18) .skip (.exit 0 [])) (.seq (.block 1 (.seq (.reg [1,2,7,8,15,16,17] [] [⟨some 19,none,.mv (.t 17)⟩,⟨some 20,none,.iadr 4 (.t 15) (.t 17)⟩,⟨some 21,none,.load true 4 (.t 20)⟩,⟨some 8,none,.alloc 26 [.flat (.slice .none 0 0),.flat (.string ⟨#[]⟩),.flat (.string ⟨#[]⟩),.flat (.slice .none 0 0)]⟩,⟨some 7,none,.asg (.t 19)⟩,⟨none,none,.store 4 (.t 8) (.t 21)⟩]) (.seq (.reg [1,2,8,9,15,16,17] [] [⟨some 22,none,.mv (.t 1)⟩,⟨some 23,none,.mv (.t 7)⟩,⟨some 24,none,.iadr 4 (.t 22) (.t 23)⟩,⟨some 25,none,.load true 4 (.t 24)⟩,⟨some 9,none,.alloc 26 [.flat (.slice .none 0 0),.flat (.string ⟨#[]⟩),.flat (.string ⟨#[]⟩),.flat (.slice .none 0 0)]⟩,⟨none,none,.store 4 (.t 9) (.t 25)⟩]) (.seq (.reg [1,2,15,16,17,30] [] [⟨some 26,none,.mv (.t 2)⟩,⟨some 27,none,.load true 4 (.t 8)⟩,⟨some 28,none,.load true 4 (.t 9)⟩,⟨some 29,none,.callv (.t 26) [.t 27,.t 28]⟩,⟨some 30,none,.un .not (.t 29)⟩]) (.cond (.t 30) (.seq (.reg [6] [] [⟨some 6,none,.asg (.c (.flat (.bool false)))⟩]) (.ret [6])) .skip))))) (.reg [1,2,15,16,17] [] [⟨some 31,none,.bin .add (.t 17) (.c (.flat (.int .i64 1)))⟩,⟨some 17,none,.mv (.t 31)⟩]))))
def b_slices_EqualFunc_letter_Part_letter_Part_letter_Part_letter_Part_0:CCode:=k_slices_EqualFunc_letter_Part_letter_Part_letter_Part_letter_Part_0
theorem on_slices_EqualFunc_letter_Part_letter_Part_letter_Part_letter_Part_0 {cf:Nun.Callee} {m:Nat} {st:Nun.St}:evC cf m b_slices_EqualFunc_letter_Part_letter_Part_letter_Part_letter_Part_0 st=evC cf m k_slices_EqualFunc_letter_Part_letter_Part_letter_Part_letter_Part_0 st:=rfl
attribute [go_sem] k_slices_EqualFunc_letter_Part_letter_Part_letter_Part_letter_Part_0
def c_slices_EqualFunc_letter_Part_letter_Part_letter_Part_letter_Part:CFun:=⟨32,[.inl 6],(.seq (.reg [0,1,2] [] [⟨some 6,none,.asg (.c (.flat (.bool false)))⟩]) (.seq (.seq (.reg [0,1,2,14] [] [⟨some 10,none,.mv (.t 0)⟩,⟨some 11,none,.len (.t 10)⟩,⟨some 12,none,.mv (.t 1)⟩,⟨some 13,none,.len (.t 12)⟩,⟨some 14,none,.bin .neq (.t 11) (.t 13)⟩]) (.cond (.t 14) (.seq (.reg [6] [] [⟨some 6,none,.asg (.c (.flat (.bool false)))⟩]) (.ret [6])) .skip)) (.seq (.seq (.reg [1,2,15,16,17] [] [⟨some 15,none,.mv (.t 0)⟩,⟨some 16,none,.len (.t 15)⟩,⟨some 17,none,.mv (.c (.flat (.int .i64 0)))⟩]) (.block 0 (.loop [1,2,15,16,17] b_slices_EqualFunc_letter_Part_letter_Part_letter_Part_letter_Part_0))) (.seq (.reg [6] [] [⟨some 6,none,.asg (.c (.flat (.bool true)))⟩]) (.ret [6]))))),[]⟩
def k_letter_reader_letter_0:CCode:=(.seq (.reg [0,2,6,10,91,92,93,94] [] [⟨some 94,none,.bin .lss (.t 93) (.t 92)⟩]) (.seq (.cond (.t 94) .skip (.exit 2 [6,10])) (.seq (.block 3 (.seq (.reg [0,2,6,10,17,91,92,93] [] [⟨some 95,none,.iadr 1 (.t 91) (.t 93)⟩,⟨some 96,none,.load false 1 (.t 95)⟩,⟨some 17,none,.asg (.t 96)⟩]) (.regT [0,2,6,10,91,92,93] [⟨some 97,none,.fadr 3 (.t 10)⟩,⟨some 99,none,.mv (.t 0)⟩,⟨some 100,none,.mv (.t 17)⟩,⟨some 101,none,.mv (.t 2)⟩,⟨some 102,none,.bin .add (.t 101) (.c (.flat (.int .i64 1)))⟩] (.two ⟨some 98,none,.loadM (.t 97)⟩ (.one ⟨some 103,none,.call 17 [.t 99,.t 100,.t 102]⟩ (.one ⟨some 104,none,.mksl false 1 4 [.flat (.slice .none 0 0),.flat (.string ⟨#[]⟩),.flat (.string ⟨#[]⟩),.flat (.slice .none 0 0)] [⟨0,⟨4,.t 103⟩⟩]⟩ (.one ⟨some 105,none,.append false 4 (.t 98) (.t 104)⟩ (.one ⟨some 106,none,.fadr 3 (.t 10)⟩ (.one ⟨none,none,.store 1 (.t 106) (.t 105)⟩ .done))))) (.one ⟨some 103,none,.call 17 [.t 99,.t 100,.t 102]⟩ (.two ⟨some 98,none,.loadM (.t 97)⟩ (.one ⟨some 104,none,.mksl false 1 4 [.flat (.slice .none 0 0),.flat (.string ⟨#[]⟩),.flat (.string ⟨#[]⟩),.flat (.slice .none 0 0)] [⟨0,⟨4,.t 103⟩⟩]⟩ (.one ⟨some 105,none,.append false 4 (.t 98) (.t 104)⟩ (.one ⟨some 106,none,.fadr 3 (.t 10)⟩ (.one ⟨none,none,.store 1 (.t 106) (.t 105)⟩ .done)))) (.one ⟨some 104,none,.mksl false 1 4 [.flat (.slice .none 0 0),.flat (.string ⟨#[]⟩),.flat (.string ⟨#[]⟩),.flat (.slice .none 0 0)] [⟨0,⟨4,.t 103⟩⟩]⟩ (.one ⟨some 98,none,.loadM (.t 97)⟩ (.one ⟨some 105,none,.append false 4 (.t 98) (.t 104)⟩ (.one ⟨some 106,none,.fadr 3 (.t 10)⟩ (.one ⟨none,none,.store 1 (.t 106) (.t 105)⟩ .done))))))))))) (.reg [0,2,6,10,91,92,93] [] [⟨some 107,none,.bin .add (.t 93) (.c (.flat (.int .i64 1)))⟩,⟨some 93,none,.mv (.t 107)⟩]))))
def b_letter_reader_letter_0:CCode:=k_letter_reader_letter_0
theorem on_letter_reader_letter_0 {cf:Nun.Callee} {m:Nat} {st:Nun.St}:evC cf m b_letter_reader_letter_0 st=evC cf m k_letter_reader_letter_0 st:=rfl
attribute [go_sem] k_letter_reader_letter_0
def h_letter_reader_letter_0:CCode:=(.reg [14,15] [] [⟨some 15,none,.asg (.t 68)⟩])
def g_letter_reader_letter_0:CCode:=(.block 1 (.reg [] [] [⟨some 69,none,.loadA (.t 14)⟩,⟨some 70,none,.mv (.t 15)⟩,⟨some 71,none,.mksl false 1 1 [.flat (.string ⟨#[]⟩)] [⟨0,⟨1,.t 70⟩⟩]⟩,⟨some 72,none,.append false 1 (.t 69) (.t 71)⟩,⟨none,none,.store 1 (.t 14) (.t 72)⟩]))
def c_letter_reader_letter:CFun:=⟨109,[.inr ⟨6,⟨true,4⟩⟩],(.seq (.reg [0,1,2,6] [] [⟨some 6,none,.alloc 26 [.flat (.slice .none 0 0),.flat (.string ⟨#[]⟩),.flat (.string ⟨#[]⟩),.flat (.slice .none 0 0)]⟩]) (.seq (.reg [0,1,2,6,7,8,9] [] [⟨some 19,none,.mv (.t 1)⟩,⟨some 20,none,.call 24 [.t 19]⟩,⟨some 18,none,.mv (.t 20)⟩,⟨some 21,none,.ext (.t 18) 0⟩,⟨some 22,none,.ext (.t 18) 1⟩,⟨some 23,none,.ext (.t 18) 2⟩,⟨some 7,none,.asg (.t 21)⟩,⟨some 8,none,.asg (.t 22)⟩,⟨some 9,none,.asg (.t 23)⟩]) (.seq (.reg [0,1,2,6,7,8] [] [⟨some 24,none,.mv (.t 9)⟩,⟨some 25,none,.bin .eql (.t 24) (.c (.flat (.int .i64 0)))⟩,⟨some 26,none,.mv (.t 9)⟩,⟨some 27,none,.call 25 [.t 25,.t 26]⟩]) (.seq (.reg [0,1,2,6,7,8,10] [] [⟨some 28,none,.mv (.t 7)⟩,⟨some 29,none,.build [.flat (.slice .none 0 0),.flat (.string ⟨#[]⟩),.flat (.string ⟨#[]⟩),.flat (.slice .none 0 0)] [⟨0,⟨1,.t 28⟩⟩]⟩,⟨some 10,none,.alloc 26 [.flat (.slice .none 0 0),.flat (.string ⟨#[]⟩),.flat (.string ⟨#[]⟩),.flat (.slice .none 0 0)]⟩,⟨none,none,.store 4 (.t 10) (.t 29)⟩]) (.seq (.reg [0,1,2,6,7,8,10] [] [⟨some 11,none,.asg (.c (.flat (.string ⟨#[]⟩)))⟩]) (.seq (.reg [0,1,2,6,7,8,10,11] [] [⟨some 31,none,.mv (.t 7)⟩,⟨some 32,none,.call 26 [.t 31]⟩,⟨some 30,none,.mv (.t 32)⟩,⟨some 33,none,.ext (.t 30) 0⟩,⟨some 34,none,.ext (.t 30) 1⟩,⟨some 35,none,.fadr 1 (.t 10)⟩,⟨none,none,.store 1 (.t 35) (.t 33)⟩,⟨some 11,none,.asg (.t 34)⟩]) (.seq (.reg [0,1,2,6,8,10,11,12,13] [] [⟨some 37,none,.mv (.t 7)⟩,⟨some 38,none,.call 27 [.t 37,.c (.flat (.string ⟨#[99,111,110,116,101,110,116,45,116,114,97,110,115,102,101,114,45,101,110,99,111,100,105,110,103]⟩))]⟩,⟨some 36,none,.mv (.t 38)⟩,⟨some 39,none,.ext (.t 36) 0⟩,⟨some 40,none,.ext (.t 36) 1⟩,⟨some 12,none,.asg (.t 39)⟩,⟨some 13,none,.asg (.t 40)⟩]) (.seq (.seq (.reg [0,1,2,6,8,10,11,12,42] [] [⟨some 41,none,.mv (.t 13)⟩,⟨some 42,none,.bin .eql (.t 41) (.c (.flat (.int .i64 0)))⟩]) (.cond (.t 42) (.reg [0,1,2,6,8,10,11,12] [] [⟨some 12,none,.asg (.c (.flat (.string ⟨#[55,98,105,116]⟩)))⟩]) .skip)) (.seq (.reg [0,1,2,6,8,10,11,12] [] [⟨some 43,none,.mv (.t 12)⟩,⟨some 44,none,.call 28 [.t 43]⟩,⟨some 12,none,.asg (.t 44)⟩]) (.seq (.seq (.reg [0,1,2,6,8,10,11,12,48] [] [⟨some 45,none,.fadr 1 (.t 10)⟩,⟨some 46,none,.load false 1 (.t 45)⟩,⟨some 47,none,.call 29 [.t 46,.c (.flat (.string ⟨#[109,117,108,116,105,112,97,114,116,47]⟩))]⟩,⟨some 48,none,.un .not (.t 47)⟩]) (.cond (.t 48) (.seq (.reg [6,10] [] [⟨some 49,none,.mv (.t 1)⟩,⟨some 50,none,.mv (.t 8)⟩,⟨some 51,none,.sliceS (.t 49) (.some (.t 50)) .none⟩,⟨some 52,none,.mv (.t 12)⟩,⟨some 53,none,.call 30 [.t 51,.t 52]⟩,⟨some 54,none,.fadr 2 (.t 10)⟩,⟨none,none,.store 1 (.t 54) (.t 53)⟩]) (.seq (.reg [6] [] [⟨some 55,none,.load true 4 (.t 10)⟩,⟨none,none,.store 4 (.t 6) (.t 55)⟩]) (.ret [6]))) .skip)) (.seq (.reg [0,1,2,6,8,10,11] [] [⟨some 56,none,.mv (.t 12)⟩,⟨some 57,none,.bin .eql (.t 56) (.c (.flat (.string ⟨#[55,98,105,116]⟩)))⟩,⟨some 58,none,.mv (.t 57)⟩,⟨some 59,some ⟨58,true⟩,.mv (.t 11)⟩,⟨some 60,some ⟨58,true⟩,.call 31 [.t 59]⟩,⟨some 61,none,.pick (.t 58) (.t 60) (.c (.flat (.bool false)))⟩,⟨some 62,none,.call 25 [.t 61,.c (.flat (.int .i64 7))]⟩]) (.seq (.reg [0,1,2,6,8,10,11,14] [] [⟨some 14,none,.alloc 32 [.flat (.slice .none 0 0)]⟩]) (.seq (.seq (.reg [0,2,6,10,14,67] [] [⟨some 63,none,.mv (.t 1)⟩,⟨some 64,none,.mv (.t 8)⟩,⟨some 65,none,.sliceS (.t 63) (.some (.t 64)) .none⟩,⟨some 66,none,.mv (.t 11)⟩,⟨some 67,none,.call 32 [.t 65,.t 66]⟩]) (.block 0 (.range 17 0 [14] (.t 67)))) (.seq (.reg [0,2,6,10,14] [] [⟨some 73,none,.mv (.t 2)⟩,⟨some 74,none,.bin .lss (.t 73) (.c (.flat (.int .i64 4)))⟩,⟨some 75,none,.call 25 [.t 74,.c (.flat (.int .i64 8))]⟩]) (.seq (.reg [0,2,6,10,14] [⟨some 76,none,.mv (.t 0)⟩,⟨some 77,none,.nilc (.t 76)⟩,⟨some 78,none,.fadr 0 (.t 77)⟩,⟨some 79,none,.load false 1 (.t 78)⟩,⟨some 80,none,.load false 1 (.t 14)⟩,⟨some 81,none,.len (.t 80)⟩] [⟨some 82,none,.bin .add (.t 79) (.t 81)⟩,⟨some 83,none,.nilc (.t 76)⟩,⟨some 84,none,.fadr 0 (.t 83)⟩,⟨none,none,.store 1 (.t 84) (.t 82)⟩]) (.seq (.reg [0,2,6,10,14] [] [⟨some 85,none,.mv (.t 0)⟩,⟨some 86,none,.nilc (.t 85)⟩,⟨some 87,none,.fadr 0 (.t 86)⟩,⟨some 88,none,.load false 1 (.t 87)⟩,⟨some 89,none,.bin .leq (.t 88) (.c (.flat (.int .i64 64)))⟩,⟨some 90,none,.call 25 [.t 89,.c (.flat (.int .i64 5))]⟩]) (.seq (.seq (.reg [0,2,6,10,91,92,93] [] [⟨some 91,none,.load false 1 (.t 14)⟩,⟨some 92,none,.len (.t 91)⟩,⟨some 93,none,.mv (.c (.flat (.int .i64 0)))⟩]) (.block 2 (.loop [0,2,6,10,91,92,93] b_letter_reader_letter_0))) (.seq (.reg [6] [] [⟨some 108,none,.load true 4 (.t 10)⟩,⟨none,none,.store 4 (.t 6) (.t 108)⟩]) (.ret [6]))))))))))))))))))),[([68],h_letter_reader_letter_0,g_letter_reader_letter_0)]⟩
def c_letter_must:CFun:=⟨9,[],(.seq (.reg [1,5] [] [⟨some 4,none,.mv (.t 0)⟩,⟨some 5,none,.un .not (.t 4)⟩]) (.cond (.t 5) (.reg [] [] [⟨some 6,none,.mv (.t 1)⟩,⟨some 7,none,.build [.flat (.int .i64 0)] [⟨0,⟨1,.t 6⟩⟩]⟩,⟨some 8,none,.nilc (.c .unk)⟩,⟨none,none,.nilc (.c .unk)⟩]) .skip)),[]⟩
def k_letter_kind_0:CCode:=(.seq (.reg [8,11,46,47,48,49] [] [⟨some 49,none,.bin .lss (.t 48) (.t 47)⟩]) (.seq (.cond (.t 49) .skip (.exit 0 [8,11])) (.seq (.block 1 (.seq (.reg [8,11,13,46,47,48] [] [⟨some 50,none,.iadr 2 (.t 46) (.t 48)⟩,⟨some 51,none,.load true 2 (.t 50)⟩,⟨some 13,none,.alloc 85 [.flat (.string ⟨#[]⟩),.flat (.string ⟨#[]⟩)]⟩,⟨none,none,.store 2 (.t 13) (.t 51)⟩]) (.seq (.reg [8,11,13,46,47,48,54] [] [⟨some 52,none,.fadr 0 (.t 13)⟩,⟨some 53,none,.load false 1 (.t 52)⟩,⟨some 54,none,.call 42 [.t 53,.c (.flat (.string ⟨#[98,111,117,110,100,97,114,121]⟩))]⟩]) (.cond (.t 54) (.reg [8,11,46,47,48] [] [⟨some 55,none,.fadr 1 (.t 13)⟩,⟨some 56,none,.load false 1 (.t 55)⟩,⟨some 11,none,.asg (.t 56)⟩]) .skip)))) (.reg [8,11,46,47,48] [] [⟨some 57,none,.bin .add (.t 48) (.c (.flat (.int .i64 1)))⟩,⟨some 48,none,.mv (.t 57)⟩]))))
def b_letter_kind_0:CCode:=k_letter_kind_0
theorem on_letter_kind_0 {cf:Nun.Callee} {m:Nat} {st:Nun.St}:evC cf m b_letter_kind_0 st=evC cf m k_letter_kind_0 st:=rfl
attribute [go_sem] k_letter_kind_0
def c_letter_kind:CFun:=⟨82,[.inl 2,.inl 3],(.seq (.reg [0] [] [⟨some 2,none,.asg (.c (.flat (.string ⟨#[]⟩)))⟩,⟨some 3,none,.asg (.c (.flat (.string ⟨#[]⟩)))⟩]) (.seq (.reg [0,4,5] [] [⟨some 18,none,.mv (.t 0)⟩,⟨some 19,none,.call 27 [.t 18,.c (.flat (.string ⟨#[99,111,110,116,101,110,116,45,116,121,112,101]⟩))]⟩,⟨some 17,none,.mv (.t 19)⟩,⟨some 20,none,.ext (.t 17) 0⟩,⟨some 21,none,.ext (.t 17) 1⟩,⟨some 4,none,.asg (.t 20)⟩,⟨some 5,none,.asg (.t 21)⟩]) (.seq (.reg [4,5,7] [] [⟨some 23,none,.mv (.t 0)⟩,⟨some 24,none,.call 27 [.t 23,.c (.flat (.string ⟨#[99,111,110,116,101,110,116,45,116,114,97,110,115,102,101,114,45,101,110,99,111,100,105,110,103]⟩))]⟩,⟨some 22,none,.mv (.t 24)⟩,⟨some 25,none,.ext (.t 22) 0⟩,⟨some 26,none,.ext (.t 22) 1⟩,⟨some 6,none,.asg (.t 25)⟩,⟨some 7,none,.asg (.t 26)⟩]) (.seq (.reg [4,5] [] [⟨some 27,none,.mv (.t 5)⟩,⟨some 28,none,.bin .lss (.t 27) (.c (.flat (.int .i64 2)))⟩,⟨some 29,none,.mv (.t 28)⟩,⟨some 30,some ⟨29,true⟩,.mv (.t 7)⟩,⟨some 31,some ⟨29,true⟩,.bin .lss (.t 30) (.c (.flat (.int .i64 2)))⟩,⟨some 32,none,.pick (.t 29) (.t 31) (.c (.flat (.bool false)))⟩,⟨some 33,none,.call 25 [.t 32,.c (.flat (.int .i64 9))]⟩]) (.seq (.seq (.reg [4,35] [] [⟨some 34,none,.mv (.t 5)⟩,⟨some 35,none,.bin .eql (.t 34) (.c (.flat (.int .i64 0)))⟩]) (.cond (.t 35) (.seq (.reg [2,3] [] [⟨some 2,none,.asg (.c (.flat (.string ⟨#[116,101,120,116,47,112,108,97,105,110]⟩)))⟩,⟨some 3,none,.asg (.c (.flat (.string ⟨#[]⟩)))⟩]) (.ret [2,3])) .skip)) (.seq (.reg [8,9,10] [] [⟨some 37,none,.mv (.t 4)⟩,⟨some 38,none,.call 41 [.t 37]⟩,⟨some 36,none,.mv (.t 38)⟩,⟨some 39,none,.ext (.t 36) 0⟩,⟨some 40,none,.ext (.t 36) 1⟩,⟨some 41,none,.ext (.t 36) 2⟩,⟨some 8,none,.asg (.t 39)⟩,⟨some 9,none,.asg (.t 40)⟩,⟨some 10,none,.asg (.t 41)⟩]) (.seq (.reg [8,9] [] [⟨some 42,none,.mv (.t 10)⟩,⟨some 43,none,.bin .eql (.t 42) (.c (.flat (.int .i64 0)))⟩,⟨some 44,none,.mv (.t 10)⟩,⟨some 45,none,.call 25 [.t 43,.t 44]⟩]) (.seq (.reg [8,9,11] [] [⟨some 11,none,.asg (.c (.flat (.string ⟨#[]⟩)))⟩]) (.seq (.seq (.reg [8,11,46,47,48] [] [⟨some 46,none,.mv (.t 9)⟩,⟨some 47,none,.len (.t 46)⟩,⟨some 48,none,.mv (.c (.flat (.int .i64 0)))⟩]) (.block 0 (.loop [8,11,46,47,48] b_letter_kind_0))) (.seq (.reg [8,11,14,15,16] [] [⟨some 59,none,.mv (.t 8)⟩,⟨some 60,none,.call 38 [.t 59,.c (.flat (.string ⟨#[47]⟩))]⟩,⟨some 58,none,.mv (.t 60)⟩,⟨some 61,none,.ext (.t 58) 0⟩,⟨some 62,none,.ext (.t 58) 1⟩,⟨some 63,none,.ext (.t 58) 2⟩,⟨some 14,none,.asg (.t 61)⟩,⟨some 15,none,.asg (.t 62)⟩,⟨some 16,none,.asg (.t 63)⟩]) (.seq (.reg [8,11] [] [⟨some 64,none,.mv (.t 16)⟩,⟨some 65,none,.mv (.t 64)⟩,⟨some 66,some ⟨65,true⟩,.mv (.t 14)⟩,⟨some 67,some ⟨65,true⟩,.bin .neq (.t 66) (.c (.flat (.string ⟨#[]⟩)))⟩,⟨some 68,none,.pick (.t 65) (.t 67) (.c (.flat (.bool false)))⟩,⟨some 69,none,.mv (.t 68)⟩,⟨some 70,some ⟨69,true⟩,.mv (.t 15)⟩,⟨some 71,some ⟨69,true⟩,.bin .neq (.t 70) (.c (.flat (.string ⟨#[]⟩)))⟩,⟨some 72,none,.pick (.t 69) (.t 71) (.c (.flat (.bool false)))⟩,⟨some 73,none,.mv (.t 72)⟩,⟨some 74,some ⟨73,true⟩,.mv (.t 15)⟩,⟨some 75,some ⟨73,true⟩,.call 43 [.t 74,.c (.flat (.int .u8 47))]⟩,⟨some 76,some ⟨73,true⟩,.bin .lss (.t 75) (.c (.flat (.int .i64 0)))⟩,⟨some 77,none,.pick (.t 73) (.t 76) (.c (.flat (.bool false)))⟩,⟨some 78,none,.call 25 [.t 77,.c (.flat (.int .i64 7))]⟩]) (.seq (.reg [2,3] [] [⟨some 79,none,.mv (.t 8)⟩,⟨some 80,none,.call 28 [.t 79]⟩,⟨some 81,none,.mv (.t 11)⟩,⟨some 2,none,.asg (.t 80)⟩,⟨some 3,none,.asg (.t 81)⟩]) (.ret [2,3]))))))))))))),[]⟩
def c_letter_said:CFun:=⟨30,[.inl 4],(.seq (.reg [0,1] [] [⟨some 4,none,.asg (.c (.flat (.string ⟨#[]⟩)))⟩]) (.seq (.reg [0,1,5,6] [] [⟨some 5,none,.asg (.c (.flat (.string ⟨#[]⟩)))⟩,⟨some 6,none,.asg (.c (.flat (.int .i64 7)))⟩]) (.seq (.seq (.reg [0,5,6,7] [] [⟨some 7,none,.mv (.t 1)⟩]) (.block 0 (.seq (.reg [0,5,6,7,8] [] [⟨some 9,none,.bin .eql (.t 7) (.c (.flat (.string ⟨#[55,98,105,116]⟩)))⟩,⟨some 8,none,.asg (.t 9)⟩]) (.cond (.t 8) (.seq (.reg [4] [] [⟨some 10,none,.mv (.t 0)⟩,⟨some 11,none,.call 45 [.t 10]⟩,⟨some 4,none,.asg (.t 11)⟩]) (.ret [4])) (.seq (.reg [0,5,6,7,12] [] [⟨some 13,none,.bin .eql (.t 7) (.c (.flat (.string ⟨#[113,117,111,116,101,100,45,112,114,105,110,116,97,98,108,101]⟩)))⟩,⟨some 12,none,.asg (.t 13)⟩]) (.cond (.t 12) (.reg [5,6] [] [⟨some 15,none,.mv (.t 0)⟩,⟨some 16,none,.call 46 [.t 15]⟩,⟨some 14,none,.mv (.t 16)⟩,⟨some 17,none,.ext (.t 14) 0⟩,⟨some 18,none,.ext (.t 14) 1⟩,⟨some 5,none,.asg (.t 17)⟩,⟨some 6,none,.asg (.t 18)⟩]) (.seq (.reg [0,5,6,19] [] [⟨some 20,none,.bin .eql (.t 7) (.c (.flat (.string ⟨#[98,97,115,101,54,52]⟩)))⟩,⟨some 19,none,.asg (.t 20)⟩]) (.cond (.t 19) (.reg [5,6] [] [⟨some 22,none,.mv (.t 0)⟩,⟨some 23,none,.call 47 [.t 22]⟩,⟨some 21,none,.mv (.t 23)⟩,⟨some 24,none,.ext (.t 21) 0⟩,⟨some 25,none,.ext (.t 21) 1⟩,⟨some 5,none,.asg (.t 24)⟩,⟨some 6,none,.asg (.t 25)⟩]) .skip)))))))) (.seq (.reg [5] [] [⟨some 26,none,.mv (.t 6)⟩,⟨some 27,none,.bin .eql (.t 26) (.c (.flat (.int .i64 0)))⟩,⟨some 28,none,.call 25 [.t 27,.c (.flat (.int .i64 7))]⟩]) (.seq (.reg [4] [] [⟨some 29,none,.mv (.t 5)⟩,⟨some 4,none,.asg (.t 29)⟩]) (.ret [4])))))),[]⟩
def k_letter_seven_0:CCode:=(.seq (.reg [0,6,7,8] [] [⟨some 8,none,.bin .lss (.t 7) (.t 6)⟩]) (.seq (.cond (.t 8) .skip (.exit 0 [0])) (.seq (.block 1 (.seq (.reg [0,3,6,7] [] [⟨some 9,none,.mv (.t 7)⟩,⟨some 3,none,.asg (.t 9)⟩]) (.reg [0,6,7] [] [⟨some 10,none,.mv (.t 0)⟩,⟨some 11,none,.mv (.t 3)⟩,⟨some 12,none,.idx (.t 10) (.t 11)⟩,⟨some 13,none,.bin .gtr (.t 12) (.c (.flat (.int .u8 0)))⟩,⟨some 14,none,.mv (.t 13)⟩,⟨some 15,some ⟨14,true⟩,.mv (.t 0)⟩,⟨some 16,some ⟨14,true⟩,.mv (.t 3)⟩,⟨some 17,some ⟨14,true⟩,.idx (.t 15) (.t 16)⟩,⟨some 18,some ⟨14,true⟩,.bin .lss (.t 17) (.c (.flat (.int .u8 128)))⟩,⟨some 19,none,.pick (.t 14) (.t 18) (.c (.flat (.bool false)))⟩,⟨some 20,none,.call 25 [.t 19,.c (.flat (.int .i64 7))]⟩]))) (.reg [0,6,7] [] [⟨some 21,none,.bin .add (.t 7) (.c (.flat (.int .i64 1)))⟩,⟨some 7,none,.mv (.t 21)⟩]))))
def b_letter_seven_0:CCode:=k_letter_seven_0
theorem on_letter_seven_0 {cf:Nun.Callee} {m:Nat} {st:Nun.St}:evC cf m b_letter_seven_0 st=evC cf m k_letter_seven_0 st:=rfl
attribute [go_sem] k_letter_seven_0
def c_letter_seven:CFun:=⟨35,[.inl 2],(.seq (.reg [0] [] [⟨some 2,none,.asg (.c (.flat (.string ⟨#[]⟩)))⟩]) (.seq (.seq (.reg [0,6,7] [] [⟨some 5,none,.mv (.t 0)⟩,⟨some 6,none,.lenS (.t 5)⟩,⟨some 7,none,.mv (.c (.flat (.int .i64 0)))⟩]) (.block 0 (.loop [0,6,7] b_letter_seven_0))) (.seq (.reg [4] [] [⟨some 22,none,.mv (.t 0)⟩,⟨some 23,none,.call 61 [.t 22,.c (.flat (.string ⟨#[13,10]⟩)),.c (.flat (.string ⟨#[0]⟩))]⟩,⟨some 4,none,.asg (.t 23)⟩]) (.seq (.reg [4] [] [⟨some 24,none,.mv (.t 4)⟩,⟨some 25,none,.call 43 [.t 24,.c (.flat (.int .u8 13))]⟩,⟨some 26,none,.bin .lss (.t 25) (.c (.flat (.int .i64 0)))⟩,⟨some 27,none,.mv (.t 26)⟩,⟨some 28,some ⟨27,true⟩,.mv (.t 4)⟩,⟨some 29,some ⟨27,true⟩,.call 43 [.t 28,.c (.flat (.int .u8 10))]⟩,⟨some 30,some ⟨27,true⟩,.bin .lss (.t 29) (.c (.flat (.int .i64 0)))⟩,⟨some 31,none,.pick (.t 27) (.t 30) (.c (.flat (.bool false)))⟩,⟨some 32,none,.call 25 [.t 31,.c (.flat (.int .i64 7))]⟩]) (.seq (.reg [2] [] [⟨some 33,none,.mv (.t 4)⟩,⟨some 34,none,.call 61 [.t 33,.c (.flat (.string ⟨#[0]⟩)),.c (.flat (.string ⟨#[10]⟩))]⟩,⟨some 2,none,.asg (.t 34)⟩]) (.ret [2])))))),[]⟩
def k_letter_Marked_0:CCode:=(.seq (.reg [0,6,7,8] [] [⟨some 8,none,.bin .lss (.t 7) (.t 6)⟩]) (.seq (.cond (.t 8) .skip (.exit 0 [0])) (.seq (.block 1 (.seq (.reg [0,3,6,7] [] [⟨some 9,none,.mv (.t 7)⟩,⟨some 3,none,.asg (.t 9)⟩]) (.seq (.reg [0,4,6,7] [] [⟨some 10,none,.mv (.t 0)⟩,⟨some 11,none,.mv (.t 3)⟩,⟨some 12,none,.idx (.t 10) (.t 11)⟩,⟨some 4,none,.asg (.t 12)⟩]) (.seq (.reg [0,6,7,33] [] [⟨some 13,none,.mv (.t 4)⟩,⟨some 14,none,.bin .lss (.t 13) (.c (.flat (.int .u8 48)))⟩,⟨some 15,none,.mv (.t 14)⟩,⟨some 16,some ⟨15,false⟩,.mv (.t 4)⟩,⟨some 17,some ⟨15,false⟩,.bin .gtr (.t 16) (.c (.flat (.int .u8 57)))⟩,⟨some 18,none,.pick (.t 15) (.c (.flat (.bool true))) (.t 17)⟩,⟨some 19,none,.mv (.t 18)⟩,⟨some 20,some ⟨19,true⟩,.mv (.t 4)⟩,⟨some 21,some ⟨19,true⟩,.bin .or (.t 20) (.c (.flat (.int .u8 32)))⟩,⟨some 22,some ⟨19,true⟩,.bin .lss (.t 21) (.c (.flat (.int .u8 97)))⟩,⟨some 23,some ⟨19,true⟩,.mv (.t 22)⟩,⟨some 24,some ⟨23,false⟩,.mv (.t 4)⟩,⟨some 25,some ⟨23,false⟩,.bin .or (.t 24) (.c (.flat (.int .u8 32)))⟩,⟨some 26,some ⟨23,false⟩,.bin .gtr (.t 25) (.c (.flat (.int .u8 122)))⟩,⟨some 27,some ⟨19,true⟩,.pick (.t 23) (.c (.flat (.bool true))) (.t 26)⟩,⟨some 28,none,.pick (.t 19) (.t 27) (.c (.flat (.bool false)))⟩,⟨some 29,none,.mv (.t 28)⟩,⟨some 30,some ⟨29,true⟩,.mv (.t 4)⟩,⟨some 31,some ⟨29,true⟩,.call 43 [.c (.flat (.string ⟨#[45,95,61,46]⟩)),.t 30]⟩,⟨some 32,some ⟨29,true⟩,.bin .lss (.t 31) (.c (.flat (.int .i64 0)))⟩,⟨some 33,none,.pick (.t 29) (.t 32) (.c (.flat (.bool false)))⟩]) (.cond (.t 33) (.seq (.reg [2] [] [⟨some 2,none,.asg (.c (.flat (.bool false)))⟩]) (.ret [2])) .skip))))) (.reg [0,6,7] [] [⟨some 34,none,.bin .add (.t 7) (.c (.flat (.int .i64 1)))⟩,⟨some 7,none,.mv (.t 34)⟩]))))
def b_letter_Marked_0:CCode:=k_letter_Marked_0
theorem on_letter_Marked_0 {cf:Nun.Callee} {m:Nat} {st:Nun.St}:evC cf m b_letter_Marked_0 st=evC cf m k_letter_Marked_0 st:=rfl
attribute [go_sem] k_letter_Marked_0
def c_letter_Marked:CFun:=⟨42,[.inl 2],(.seq (.reg [0] [] [⟨some 2,none,.asg (.c (.flat (.bool false)))⟩]) (.seq (.seq (.reg [0,6,7] [] [⟨some 5,none,.mv (.t 0)⟩,⟨some 6,none,.lenS (.t 5)⟩,⟨some 7,none,.mv (.c (.flat (.int .i64 0)))⟩]) (.block 0 (.loop [0,6,7] b_letter_Marked_0))) (.seq (.reg [2] [] [⟨some 35,none,.mv (.t 0)⟩,⟨some 36,none,.bin .neq (.t 35) (.c (.flat (.string ⟨#[]⟩)))⟩,⟨some 37,none,.mv (.t 36)⟩,⟨some 38,some ⟨37,true⟩,.mv (.t 0)⟩,⟨some 39,some ⟨37,true⟩,.lenS (.t 38)⟩,⟨some 40,some ⟨37,true⟩,.bin .leq (.t 39) (.c (.flat (.int .i64 70)))⟩,⟨some 41,none,.pick (.t 37) (.t 40) (.c (.flat (.bool false)))⟩,⟨some 2,none,.asg (.t 41)⟩]) (.ret [2])))),[]⟩
def c_letter_bodies:CFun:=⟨6,[.inl 4],(.seq (.reg [2,3] [] [⟨some 2,none,.box 9 1 (.t 0)⟩,⟨some 3,none,.box 9 1 (.t 1)⟩,⟨some 4,none,.asg (.c (.flat .nilFunc))⟩]) (.seq (.reg [4] [] [⟨some 5,none,.clos 48 [.t 3,.t 2]⟩,⟨some 4,none,.asg (.t 5)⟩]) (.ret [4]))),[]⟩
def k_letter_bodies_1_0:CCode:=(.block 1 (.seq (.reg [0,4,5,7,8,9] [] [⟨some 23,none,.mv (.t 5)⟩,⟨some 24,none,.mv (.t 8)⟩,⟨some 25,none,.sliceS (.t 23) (.some (.t 24)) .none⟩,⟨some 26,none,.mv (.t 4)⟩,⟨some 27,none,.call 50 [.t 25,.t 26]⟩,⟨some 9,none,.asg (.t 27)⟩]) (.seq (.reg [0,4,5,7,8,9] [] [⟨some 28,none,.mv (.t 9)⟩,⟨some 29,none,.bin .geq (.t 28) (.c (.flat (.int .i64 0)))⟩,⟨some 30,none,.call 25 [.t 29,.c (.flat (.int .i64 7))]⟩]) (.seq (.reg [0,4,5,7,8] [] [⟨some 31,none,.mv (.t 8)⟩,⟨some 32,none,.mv (.t 9)⟩,⟨some 33,none,.bin .add (.t 31) (.t 32)⟩,⟨some 8,none,.asg (.t 33)⟩]) (.seq (.reg [0,4,5,7,8,10] [] [⟨some 34,none,.mv (.t 5)⟩,⟨some 35,none,.mv (.t 8)⟩,⟨some 36,none,.mv (.t 4)⟩,⟨some 37,none,.lenS (.t 36)⟩,⟨some 38,none,.bin .add (.t 35) (.t 37)⟩,⟨some 39,none,.sliceS (.t 34) (.some (.t 38)) .none⟩,⟨some 10,none,.asg (.t 39)⟩]) (.seq (.seq (.reg [0,4,5,7,8,10,41] [] [⟨some 40,none,.mv (.t 10)⟩,⟨some 41,none,.call 29 [.t 40,.c (.flat (.string ⟨#[45,45,13,10]⟩))]⟩]) (.cond (.t 41) (.seq (.reg [0,5,7,8] [] [⟨some 42,none,.mv (.t 10)⟩,⟨some 43,none,.bin .eql (.t 42) (.c (.flat (.string ⟨#[45,45,13,10]⟩)))⟩,⟨some 44,none,.call 25 [.t 43,.c (.flat (.int .i64 7))]⟩]) (.seq (.reg [] [] [⟨some 45,none,.mv (.t 0)⟩,⟨some 46,none,.mv (.t 5)⟩,⟨some 47,none,.mv (.t 7)⟩,⟨some 48,none,.mv (.t 8)⟩,⟨some 49,none,.sliceS (.t 46) (.some (.t 47)) (.some (.t 48))⟩,⟨some 50,none,.callv (.t 45) [.t 49]⟩]) (.ret []))) .skip)) (.seq (.seq (.reg [0,4,5,7,8,53] [] [⟨some 51,none,.mv (.t 10)⟩,⟨some 52,none,.call 29 [.t 51,.c (.flat (.string ⟨#[13,10]⟩))]⟩,⟨some 53,none,.un .not (.t 52)⟩]) (.cond (.t 53) (.seq (.reg [0,4,5,7,8] [] [⟨some 54,none,.mv (.t 8)⟩,⟨some 55,none,.bin .add (.t 54) (.c (.flat (.int .i64 1)))⟩,⟨some 8,none,.asg (.t 55)⟩]) (.exit 1 [0,4,5,7,8])) .skip)) (.seq (.seq (.reg [0,4,5,8,62] [] [⟨some 56,none,.mv (.t 0)⟩,⟨some 57,none,.mv (.t 5)⟩,⟨some 58,none,.mv (.t 7)⟩,⟨some 59,none,.mv (.t 8)⟩,⟨some 60,none,.sliceS (.t 57) (.some (.t 58)) (.some (.t 59))⟩,⟨some 61,none,.callv (.t 56) [.t 60]⟩,⟨some 62,none,.un .not (.t 61)⟩]) (.cond (.t 62) (.ret []) .skip)) (.seq (.reg [0,4,5,7] [] [⟨some 63,none,.mv (.t 8)⟩,⟨some 64,none,.mv (.t 4)⟩,⟨some 65,none,.lenS (.t 64)⟩,⟨some 66,none,.bin .add (.t 63) (.t 65)⟩,⟨some 67,none,.bin .add (.t 66) (.c (.flat (.int .i64 2)))⟩,⟨some 7,none,.asg (.t 67)⟩]) (.reg [0,4,5,7,8] [] [⟨some 68,none,.mv (.t 7)⟩,⟨some 8,none,.asg (.t 68)⟩]))))))))))
def b_letter_bodies_1_0:CCode:=k_letter_bodies_1_0
theorem on_letter_bodies_1_0 {cf:Nun.Callee} {m:Nat} {st:Nun.St}:evC cf m b_letter_bodies_1_0 st=evC cf m k_letter_bodies_1_0 st:=rfl
attribute [go_sem] k_letter_bodies_1_0
def c_letter_bodies_1:CFun:=⟨69,[],(.seq (.reg [0,2,4] [] [⟨some 11,none,.load false 1 (.t 1)⟩,⟨some 12,none,.bin .add (.c (.flat (.string ⟨#[13,10,45,45]⟩))) (.t 11)⟩,⟨some 4,none,.asg (.t 12)⟩]) (.seq (.reg [0,4,5,6] [] [⟨some 14,none,.load false 1 (.t 2)⟩,⟨some 15,none,.bin .add (.c (.flat (.string ⟨#[13,10]⟩))) (.t 14)⟩,⟨some 16,none,.mv (.t 4)⟩,⟨some 17,none,.bin .add (.t 16) (.c (.flat (.string ⟨#[13,10]⟩)))⟩,⟨some 18,none,.call 49 [.t 15,.t 17]⟩,⟨some 13,none,.mv (.t 18)⟩,⟨some 19,none,.ext (.t 13) 0⟩,⟨some 20,none,.ext (.t 13) 1⟩,⟨some 5,none,.asg (.t 19)⟩,⟨some 6,none,.asg (.t 20)⟩]) (.seq (.reg [0,4,5] [] [⟨some 21,none,.mv (.t 6)⟩,⟨some 22,none,.call 25 [.t 21,.c (.flat (.int .i64 7))]⟩]) (.seq (.reg [0,4,5,7] [] [⟨some 7,none,.asg (.c (.flat (.int .i64 0)))⟩]) (.seq (.reg [0,4,5,7,8] [] [⟨some 8,none,.asg (.c (.flat (.int .i64 0)))⟩]) (.block 0 (.loop [0,4,5,7,8] b_letter_bodies_1_0))))))),[]⟩
def k_head_Get_0:CCode:=(.seq (.reg [1,6,7,10,11,12,13] [] [⟨some 13,none,.bin .lss (.t 12) (.t 11)⟩]) (.seq (.cond (.t 13) .skip (.exit 0 [6,7])) (.seq (.block 1 (.seq (.reg [1,6,7,9,10,11,12] [] [⟨some 14,none,.iadr 2 (.t 10) (.t 12)⟩,⟨some 15,none,.load true 2 (.t 14)⟩,⟨some 9,none,.alloc 56 [.flat (.string ⟨#[]⟩),.flat (.string ⟨#[]⟩)]⟩,⟨none,none,.store 2 (.t 9) (.t 15)⟩]) (.seq (.seq (.reg [1,6,7,9,10,11,12,20] [] [⟨some 16,none,.fadr 0 (.t 9)⟩,⟨some 17,none,.load false 1 (.t 16)⟩,⟨some 18,none,.mv (.t 1)⟩,⟨some 19,none,.call 42 [.t 17,.t 18]⟩,⟨some 20,none,.un .not (.t 19)⟩]) (.cond (.t 20) (.exit 1 [1,6,7,10,11,12]) .skip)) (.seq (.seq (.reg [1,6,7,9,10,11,12,22] [] [⟨some 21,none,.mv (.t 7)⟩,⟨some 22,none,.bin .eql (.t 21) (.c (.flat (.int .i64 0)))⟩]) (.cond (.t 22) (.reg [1,6,7,10,11,12] [] [⟨some 23,none,.fadr 1 (.t 9)⟩,⟨some 24,none,.load false 1 (.t 23)⟩,⟨some 6,none,.asg (.t 24)⟩]) .skip)) (.reg [1,6,7,10,11,12] [] [⟨some 25,none,.mv (.t 7)⟩,⟨some 26,none,.bin .add (.t 25) (.c (.flat (.int .i64 1)))⟩,⟨some 7,none,.asg (.t 26)⟩]))))) (.reg [1,6,7,10,11,12] [] [⟨some 27,none,.bin .add (.t 12) (.c (.flat (.int .i64 1)))⟩,⟨some 12,none,.mv (.t 27)⟩]))))
def b_head_Get_0:CCode:=k_head_Get_0
theorem on_head_Get_0 {cf:Nun.Callee} {m:Nat} {st:Nun.St}:evC cf m b_head_Get_0 st=evC cf m k_head_Get_0 st:=rfl
attribute [go_sem] k_head_Get_0
def c_head_Get:CFun:=⟨30,[.inl 4,.inl 5],(.seq (.reg [0,1] [] [⟨some 4,none,.asg (.c (.flat (.string ⟨#[]⟩)))⟩,⟨some 5,none,.asg (.c (.flat (.int .i64 0)))⟩]) (.seq (.reg [0,1,6,7] [] [⟨some 6,none,.asg (.c (.flat (.string ⟨#[]⟩)))⟩,⟨some 7,none,.asg (.c (.flat (.int .i64 0)))⟩]) (.seq (.seq (.reg [1,6,7,10,11,12] [] [⟨some 10,none,.mv (.t 0)⟩,⟨some 11,none,.len (.t 10)⟩,⟨some 12,none,.mv (.c (.flat (.int .i64 0)))⟩]) (.block 0 (.loop [1,6,7,10,11,12] b_head_Get_0))) (.seq (.reg [4,5] [] [⟨some 28,none,.mv (.t 6)⟩,⟨some 29,none,.mv (.t 7)⟩,⟨some 4,none,.asg (.t 28)⟩,⟨some 5,none,.asg (.t 29)⟩]) (.ret [4,5]))))),[]⟩
def k_n14_Mixed_0:CCode:=(.seq (.seq (.reg [0,1,5,6,15] [] [⟨some 12,none,.mv (.t 6)⟩,⟨some 13,none,.mv (.t 1)⟩,⟨some 14,none,.len (.t 13)⟩,⟨some 15,none,.bin .lss (.t 12) (.t 14)⟩]) (.cond (.t 15) .skip (.exit 0 [0,5]))) (.seq (.block 1 (.seq (.seq (.reg [0,1,5,6,19] [] [⟨some 18,none,.mv (.t 6)⟩,⟨some 19,none,.bin .gtr (.t 18) (.c (.flat (.int .i64 0)))⟩]) (.cond (.t 19) (.reg [0,1,5,6] [] [⟨some 20,none,.mv (.t 5)⟩,⟨some 21,none,.bin .add (.t 20) (.c (.flat (.string ⟨#[13,10,45,45]⟩)))⟩,⟨some 22,none,.mv (.t 0)⟩,⟨some 23,none,.bin .add (.t 21) (.t 22)⟩,⟨some 5,none,.asg (.t 23)⟩]) .skip)) (.reg [0,1,5,6] [] [⟨some 24,none,.mv (.t 5)⟩,⟨some 25,none,.bin .add (.t 24) (.c (.flat (.string ⟨#[13,10]⟩)))⟩,⟨some 26,none,.mv (.t 1)⟩,⟨some 27,none,.mv (.t 6)⟩,⟨some 28,none,.iadr 1 (.t 26) (.t 27)⟩,⟨some 29,none,.load false 1 (.t 28)⟩,⟨some 30,none,.bin .add (.t 25) (.t 29)⟩,⟨some 5,none,.asg (.t 30)⟩]))) (.reg [0,1,5,6] [] [⟨some 16,none,.mv (.t 6)⟩,⟨some 17,none,.bin .add (.t 16) (.c (.flat (.int .i64 1)))⟩,⟨some 6,none,.asg (.t 17)⟩])))
attribute [go_sem] k_n14_Mixed_0
def lvs:List (FuncId × Lv):=[(3,⟨[[0,1,2],[0,1,2],[0,1,2,7],[0,1,2,7,8],[0,1,2,9,10],[0,1,2,9,43],[6],[6],[6],[6]],[],[4611686018427387921,4611686018427387909]⟩),(4,⟨[[2,3],[2,3],[4],[4]],[],[4611686018427387921,4611686018427387909]⟩),(5,⟨[[0],[2],[2]],[],[4611686018427387921,4611686018427387909]⟩),(11,⟨[[],[1,2],[0],[0]],[],[4611686018427387921,4611686018427387909]⟩),(12,⟨[[1,2,4],[1,2,4,5],[1,2,4,5,6],[1,2,4,5,6],[1,2,4,5,6,23],[1,2,4,5],[1,2,4,5,6],[1,2,4,5,6],[1,2,4,5,7],[1,2,4,5,7],[1,2,4,5,7,48],[4,5],[1,2,4,5,7],[1,2,4,5,7],[4],[4]],[],[4611686018427387921,4611686018427387909]⟩),(14,⟨[[1,2,4],[1,2,4,5],[1,2,4,5,6],[1,2,4,5,6],[1,2,4,5,6,17],[1,2,4,5],[1,2,4,5,6],[1,2,4,5,6],[1,2,4,5,7],[1,2,4,5,7],[1,2,4,5,7,46],[4,5],[1,2,4,5,7],[1,2,4,5,7],[4],[4]],[],[4611686018427387921,4611686018427387909]⟩),(13,⟨[[2,3],[4],[4]],[],[4611686018427387921,4611686018427387909]⟩),(15,⟨[[2,3],[2,3,34],[4],[4],[2,3,5],[2,3,5],[2,3,5,39],[],[2,3,5,53],[4],[4],[2,3,5],[4],[4]],[],[4611686018427387921,4611686018427387909]⟩),(23,⟨[[0,1],[0,1,10],[4],[4],[0,1,5],[0,1,5],[0,1,5,14],[],[0,1,5,40],[4],[4],[0,1,5],[4],[4]],[],[4611686018427387921,4611686018427387909]⟩),(21,⟨[[0,1],[0,1,10],[4],[4],[0,1,12,13],[0,1,12,13],[0,1,12,13,14],[],[0,1,5,12,13],[0,1,12,13,24],[4],[4],[0,1,12,13],[4],[4]],[],[4611686018427387921,4611686018427387909]⟩),(22,⟨[[0,1,2],[0,1,2,14],[6],[6],[1,2,15,16,17],[1,2,15,16,17],[1,2,15,16,17,18],[],[1,2,7,8,15,16,17],[1,2,8,9,15,16,17],[1,2,15,16,17,30],[6],[6],[1,2,15,16,17],[6],[6]],[],[4611686018427387921,4611686018427387909]⟩),(17,⟨[[0,1,2,6],[0,1,2,6,7,8,9],[0,1,2,6,7,8],[0,1,2,6,7,8,10],[0,1,2,6,7,8,10],[0,1,2,6,7,8,10,11],[0,1,2,6,8,10,11,12,13],[0,1,2,6,8,10,11,12,42],[0,1,2,6,8,10,11,12],[0,1,2,6,8,10,11,12],[0,1,2,6,8,10,11,12,48],[6,10],[6],[6],[0,1,2,6,8,10,11],[0,1,2,6,8,10,11,14],[0,2,6,10,14,67],[14],[0,2,6,10,14],[0,2,6,10,14],[0,2,6,10,14],[0,2,6,10,91,92,93],[0,2,6,10,91,92,93],[0,2,6,10,91,92,93,94],[6,10],[0,2,6,10,17,91,92,93],[0,2,6,10,91,92,93],[0,2,6,10,91,92,93],[6],[6]],[[[14,15],[]]],[4611686018427387921,4611686018427387909]⟩),(25,⟨[[1,5],[]],[],[4611686018427387921,4611686018427387909]⟩),(26,⟨[[0],[0,4,5],[4,5,7],[4,5],[4,35],[2,3],[2,3],[8,9,10],[8,9],[8,9,11],[8,11,46,47,48],[8,11,46,47,48],[8,11,46,47,48,49],[8,11],[8,11,13,46,47,48],[8,11,13,46,47,48,54],[8,11,46,47,48],[8,11,46,47,48],[8,11,14,15,16],[8,11],[2,3],[2,3]],[],[4611686018427387921,4611686018427387909]⟩),(30,⟨[[0,1],[0,1,5,6],[0,5,6,7],[0,5,6,7,8],[4],[4],[0,5,6,7,12],[5,6],[0,5,6,19],[5,6],[5],[4],[4]],[],[4611686018427387921,4611686018427387909]⟩),(45,⟨[[0],[0,6,7],[0,6,7],[0,6,7,8],[0],[0,3,6,7],[0,6,7],[0,6,7],[4],[4],[2],[2]],[],[4611686018427387921,4611686018427387909]⟩),(31,⟨[[0],[0,6,7],[0,6,7],[0,6,7,8],[0],[0,3,6,7],[0,4,6,7],[0,6,7,33],[2],[2],[0,6,7],[2],[2]],[],[4611686018427387921,4611686018427387909]⟩),(32,⟨[[2,3],[4],[4]],[],[4611686018427387921,4611686018427387909]⟩),(48,⟨[[0,2,4],[0,4,5,6],[0,4,5],[0,4,5,7],[0,4,5,7,8],[0,4,5,7,8],[0,4,5,7,8,9],[0,4,5,7,8,9],[0,4,5,7,8],[0,4,5,7,8,10],[0,4,5,7,8,10,41],[0,5,7,8],[],[],[0,4,5,7,8,53],[0,4,5,7,8],[0,4,5,7,8],[0,4,5,8,62],[],[0,4,5,7],[0,4,5,7,8]],[],[4611686018427387921,4611686018427387909]⟩),(27,⟨[[0,1],[0,1,6,7],[1,6,7,10,11,12],[1,6,7,10,11,12],[1,6,7,10,11,12,13],[6,7],[1,6,7,9,10,11,12],[1,6,7,9,10,11,12,20],[1,6,7,10,11,12],[1,6,7,9,10,11,12,22],[1,6,7,10,11,12],[1,6,7,10,11,12],[1,6,7,10,11,12],[4,5],[4,5]],[],[4611686018427387921,4611686018427387909]⟩),(7,⟨[[0,1],[0,1,5],[0,1,5,6],[0,1,5,6],[0,1,5,6,15],[0,5],[0,1,5,6,19],[0,1,5,6],[0,1,5,6],[0,1,5,6],[4],[4]],[],[4611686018427387921,4611686018427387909]⟩)]
noncomputable def code:FuncId→Option CFun:=fun f=>(lvs.lookup f).bind fun lv=>coFun Tryd.prog lv f
theorem code_ok:∀ f c,code f=some c→∃ lv,coFun Tryd.prog lv f=some c:=fun f c h=>by
 obtain ⟨lv,_,h2⟩:=Option.bind_eq_some_iff.1 h
 exact ⟨lv,h2⟩
theorem code_yld:code Nun.yldF=none:=by kernel_rfl
theorem code_nunciolaw14_LetterSames:code 4=some c_nunciolaw14_LetterSames:=by kernel_rfl
theorem code_nunciolaw14_few:code 5=some c_nunciolaw14_few:=by kernel_rfl
theorem code_nunciolaw14_awake:code 11=some c_nunciolaw14_awake:=by kernel_rfl
theorem code_nunciolaw14_light:code 12=some c_nunciolaw14_light:=by kernel_rfl
theorem code_nunciolaw14_mine:code 14=some c_nunciolaw14_mine:=by kernel_rfl
theorem code_letter_Same:code 13=some c_letter_Same:=by kernel_rfl
theorem code_n14_Same:code 15=some c_n14_Same:=by kernel_rfl
theorem code_n13_Same:code 23=some c_n13_Same:=by kernel_rfl
theorem code_slices_Equal_head_Field_head_Field:code 21=some c_slices_Equal_head_Field_head_Field:=by kernel_rfl
theorem code_slices_EqualFunc_letter_Part_letter_Part_letter_Part_letter_Part:code 22=some c_slices_EqualFunc_letter_Part_letter_Part_letter_Part_letter_Part:=by kernel_rfl
theorem code_letter_reader_letter:code 17=some c_letter_reader_letter:=by kernel_rfl
theorem code_letter_must:code 25=some c_letter_must:=by kernel_rfl
theorem code_letter_kind:code 26=some c_letter_kind:=by kernel_rfl
theorem code_letter_said:code 30=some c_letter_said:=by kernel_rfl
theorem code_letter_seven:code 45=some c_letter_seven:=by kernel_rfl
theorem code_letter_Marked:code 31=some c_letter_Marked:=by kernel_rfl
theorem code_letter_bodies:code 32=some c_letter_bodies:=by kernel_rfl
theorem code_letter_bodies_1:code 48=some c_letter_bodies_1:=by kernel_rfl
theorem code_head_Get:code 27=some c_head_Get:=by kernel_rfl
theorem all_cons {α:Type} {P:α→Prop} {a:α} {l:List α} (h:P a) (t:∀ x∈l,P x):∀ x∈a::l,P x:=fun x hx=>by
 rcases List.mem_cons.1 hx with rfl | hx
 ·exact h
 ·exact t x hx
end Go.Proofs.YtmpiobfdchlikaaDoor
end
section
namespace Nun
open Go
attribute [go_sem] look_nil look_if lookL_nil lookL_cons lookW_nil lookW_cons isNil_unk isNil_slc isNil_agg isNil_tup isNil_ptr isNil_elt
attribute [go_sem] isNil_clo isNil_yld isNil_bsl isNil_lp isNil_int isNil_str isNil_bool isNil_pnt isNil_nf isNil_ni isNil_nil wk_unk
attribute [go_sem] wk_slc wk_agg wk_tup wk_ptr wk_elt wk_clo wk_yld wk_bsl wk_lp wk_int wk_str wk_bool
attribute [go_sem] wk_pnt wk_nf wk_ni wk_nil weak_unk weak_flat weak_slc weak_agg weak_tup weak_ptr weak_elt weak_clo
attribute [go_sem] weak_yld weak_bsl weaks_nil weaks_cons nilCells_nil nilCells_cons noNil_nil noNil_cons isU8_slc isU8_agg isU8_ptr isU8_elt
attribute [go_sem] isU8_clo isU8_str isU8_bool isU8_pnt isU8_u8 isU8_i32 isU8_i64 isU8_u32 isU8_u16 isU8_u64 noU8_nil noU8_cons
attribute [go_sem] noU8_app allU8_nil allU8_cons allU8_app allU8_bytes tyOk_t tyOk_f owns_nil owns_ss owns_cc owns_sc owns_cs
attribute [go_sem] dropSlot_nil dropSlot_s dropSlot_c dropAl_nil dropAl_s dropAl_c keepW_nil keepW_cons cellsO_nil cellsO_s cellsO_c slotsO_nil
attribute [go_sem] slotsO_s slotsO_c slotsO_app cellsO_app underO_nil underO_s underO_c put_mk putOwn_mk putD_none putD_some keep_mk
attribute [go_sem] vals_nil vals_cons boxLows_nil boxLows_cons trim_eq trimK_t trimK_f cutB_mk ltO_nil ltO_s ltO_c cutK_mk
attribute [go_sem] only_mk ev_t ev_c evL_nil evL_cons evA_nil evA_cons evPs_nil evPs_cons kPut_some so_mv so_mvA
attribute [go_sem] so_asg so_asgF so_asgC so_pick kPick_b kFlat_some so_bin kBin_f so_beq kBeq_b so_eqS kEqS_a
attribute [go_sem] kEqB_s eq_n eq_b eq_i eq_s kAnd_s so_nilc kNilc_p kNilc_e kNilc_c kNilc_y so_un
attribute [go_sem] kUn_f so_conv kConv_i so_b2s b2sV_nil b2sV_sl b2sV_bsl kStr_s kBytes_s so_alloc so_box kBox_mk
attribute [go_sem] so_build kBuild_s so_mksl kMksl_s so_load readQ_t readQ_f load_ptr load_eltT load_eltF boxAt_eq kBoxAt_s
attribute [go_sem] so_loadA kLoadP_p kLoadA_s so_loadM kLoadM_p kLoadMv_t dropC_nil dropC_s dropC_c dropCA_nil dropCA_s dropCA_c
attribute [go_sem] so_store kSt_p kStQ_s kStW_t kStW_c so_fadr kFadr_p kFadr_e so_fldT so_fldF kFldT_a kFldF_a
attribute [go_sem] so_iadr kIadr_s kIadr_b so_padr kPadr_p so_idx kIdx_s kByte_s so_idxA kIdxA_t kIdxA_f evO_n
attribute [go_sem] evO_s so_sliceS kSlS_s kSub_s bnd_nn bnd_ns bnd_sn bnd_ss so_slice kSl_s kSl_b kCutS_s
attribute [go_sem] kCutB_s so_sliceP kSlP_p so_ext kExt_t so_len kLen_s kLen_b kLen_n so_lenS kLenS_s so_mvS
attribute [go_sem] kMvS_s so_mm kMm_i so_clos alOf_nil alOf_cons originL_eq dropL_nil dropL_ss dropL_sc dropL_cs dropL_cc
attribute [go_sem] dropLA_nil dropLA_cons so_appT so_appC kApp0_s kAppO_s kApp_s pvAt_s pvAt_c kCell_s so_apsT so_apsC
attribute [go_sem] kApS0_s kApSO_s kApS_s kRes_n kRes_t kRes_f dropCs_nil dropCs_s dropCs_c callBx_eq kCallB_s callSt_eq
attribute [go_sem] kCall_t kCall_f kCallP_s so_call so_callv kCallV_c kCallV_y sg_n sg_s kGuard_b kGuard_t ops_nil
attribute [go_sem] ops_cons kOps_s pre_nil pre_cons kPre_s kDyn_t sp_n sp_s kGuardP_b kGuardP_t pd_call pd_callv
attribute [go_sem] pd_alloc pd_box pd_mv pd_mvA pd_asg pd_pick pd_bin pd_beq pd_eqS pd_mvS pd_nilc pd_un
attribute [go_sem] pd_conv pd_b2s pd_build pd_mksl pd_load pd_loadA pd_fadr pd_fld pd_iadr pd_idx pd_idxA pd_paddr
attribute [go_sem] pd_sliceP pd_slice pd_sliceS pd_ext pd_len pd_lenS pd_mm pd_clos plainCall_eq kPlain_s kReg_s kRegP_s
attribute [go_sem] q_nil q_cons kQ_s kQc_s kQd_t sq_call sq_mv sq_asg sq_pick sq_bin sq_beq sq_eqS
attribute [go_sem] sq_mvS sq_nilc sq_un sq_conv sq_build sq_load sq_fadr sq_fld sq_iadr sq_idx sq_idxA sq_paddr
attribute [go_sem] sq_sliceP sq_slice sq_sliceS sq_ext sq_len sq_lenS sq_mm sq_clos kT_s t_done t_one t_two
attribute [go_sem] same_s kRegT_s kRegTP_s c_regT c_regTP c_skip c_reg c_regP c_seq kSeq_n kSeq_e kSeq_r
attribute [go_sem] c_cond kCond_b c_block kBlock_n kBlock_e kBlock_r c_loop c_exit c_ret kOver_n kOver_e kOver_r
attribute [go_sem] kEnd_s kRng_s c_range kRange_c resL_nil resL_l resL_r kResP_p kResL_s kFin_n kFin_r kLeft_s
attribute [go_sem] ownB_1 ownB_0 ownB_r ownB_2 kTurnA_n kTurnG_s kTurnE_s kTurnB_s kTurn_n kTurn_e kTurn_r fb_add
attribute [go_sem] fb_sub fb_mul fb_quo fb_rem fb_and fb_or fb_xor fb_shl fb_shr fb_eql fb_neq fb_lss
attribute [go_sem] fb_leq fb_gtr fb_geq fs_add fs_eql fs_neq fu_not fu_neg initSl_nil initSl_cons lows PV.low
attribute [go_sem] noPtrs PV.noPtr PV.good PV.cells fillP tupOf isLp Option.map_some Option.map_none List.length_cons List.length_nil List.take_succ_cons
attribute [go_sem] List.take_zero List.take_nil List.drop_succ_cons List.drop_zero List.drop_nil List.cons_append List.nil_append List.append_nil List.getElem?_cons_zero List.getElem?_cons_succ List.getElem?_nil List.set_cons_zero
attribute [go_sem] List.set_cons_succ List.zip_cons_cons List.zip_nil_left List.zip_nil_right List.foldl_cons List.foldl_nil if_true if_false decide_true decide_false Bool.and_true Bool.true_and
attribute [go_sem] Bool.and_false Bool.false_and Bool.not_true Bool.not_false Bool.false_eq_true and_true true_and and_self and_false false_and true_or or_true
attribute [go_sem] or_false false_or or_self ne_eq not_false_eq_true not_true_eq_false Nat.le_refl Nat.zero_le Nat.zero_add Nat.add_zero Nat.mul_one yld_dec
attribute [go_sem] bne_iff_ne Option.some.injEq Int.cast_ofNat_Int
abbrev Str:=List UInt8
def S (l:Str):ByteArray:=⟨l.toArray⟩
theorem mk_S {l:Str}:ByteArray.mk (List.toArray l)=S l:=rfl
theorem S_size {l:Str}:(S l).size=l.length:=by simp [S,ByteArray.size]
theorem S_get {l:Str} {i:Nat}:(S l)[i]? =l[i]? :=by
 show (ByteArray.mk l.toArray)[i]? =_
 by_cases h:i<l.length
 ·rw [List.getElem?_eq_getElem h]
  have h2:i<(ByteArray.mk l.toArray).size:=by simpa [ByteArray.size] using h
  rw [getElem?_pos (ByteArray.mk l.toArray) i h2]
  rfl
 ·rw [List.getElem?_eq_none (by omega),getElem?_neg]
  simpa [ByteArray.size] using h
theorem S_app {a b:Str}:S a++S b=S (a++b):=ByteArray.ext (by simp [S])
theorem S_ext {l:Str} {a b:Nat}:(S l).extract a b=S ((l.take b).drop a):=ByteArray.ext (by
 rw [ByteArray.data_extract]
 apply Array.ext'
 simp [S,List.extract_eq_take_drop,List.drop_take])
theorem S_inj {a b:Str}:S a=S b ↔ a=b:=⟨fun h=>by simpa [S] using h,fun h=>by rw [h]⟩
theorem S_eqB {a b:Str}:eqB (S a) (S b)=decide (a=b):=by simp only [eqB,S_inj]
theorem kByte_some {st:St} {d:Nat} {c:UInt8}:kByte st d (some c)=some (st.put d (.flat (.int .u8 c.toNat))):=rfl
theorem n0:((0:Nat):Int)=0:=rfl
theorem n1:((1:Nat):Int)=1:=rfl
theorem n2:((2:Nat):Int)=2:=rfl
theorem n3:((3:Nat):Int)=3:=rfl
theorem n4:((4:Nat):Int)=4:=rfl
theorem u8_or (a b:Nat) (ha:a<256) (hb:b<256):bitor .u8 (a:Int) (b:Int)=((a ||| b:Nat):Int):=by
 show IntKind.u8.wrap ((BitVec.ofInt 8 (a:Int) ||| BitVec.ofInt 8 (b:Int)).toNat:Int)=_
 have h1:(a ||| b)<2 ^ 8:=Nat.or_lt_two_pow (by omega) (by omega)
 have h2:BitVec.ofInt 8 (a:Int)=BitVec.ofNat 8 a:=by simp
 have h3:BitVec.ofInt 8 (b:Int)=BitVec.ofNat 8 b:=by simp
 rw [h2,h3,BitVec.toNat_or,BitVec.toNat_ofNat,BitVec.toNat_ofNat,Nat.mod_eq_of_lt (by omega),Nat.mod_eq_of_lt (by omega),wrap8 (by omega)]
def kLoop (body:St→Option (Out × St)) (live:List Nat) (nb n:Nat):Option (Out × St)→Option (Out × St)
 | some (.normal,st)=>evLoop body live nb n (st.only live nb)
 | some (.exit i,st)=>some (.exit i,st)
 | some (.ret,st)=>some (.ret,st)
 | none=>none
theorem loop_on {body:St→Option (Out × St)} {live:List Nat} {nb n:Nat} {st:St}:evLoop body live nb (n+1) st=kLoop body live nb n (body st):=by
 simp only [evLoop]
 cases body st with
 | none=>rfl
 | some p=>obtain ⟨o,s⟩:=p;cases o<;>rfl
theorem kLoop_n {body:St→Option (Out × St)} {live:List Nat} {nb n:Nat} {st:St}:kLoop body live nb n (some (.normal,st))=evLoop body live nb n (st.only live nb):=rfl
theorem kLoop_e {body:St→Option (Out × St)} {live:List Nat} {nb n i:Nat} {st:St}:kLoop body live nb n (some (.exit i,st))=some (.exit i,st):=rfl
theorem loop_by {α:Type} {body:St→Option (Out × St)} {live:List Nat} {nb:Nat} (head:α→St) (I:α→Prop) (μ:α→Nat) (res:α→Out × St)
 (h:∀ a,I a→(∃ o s,body (head a)=some (o,s)∧o≠.normal∧res a=(o,s))∨∃ s b,body (head a)=some (.normal,s)∧s.only live nb=head b∧I b∧μ b<μ a∧res b=res a):∀ {n:Nat} {a:α},I a→μ a<n→evLoop body live nb n (head a)=some (res a)
 | 0,a,_,hm=>by omega
 | n+1,a,hi,hm=>by
   rw [loop_on]
   rcases h a hi with ⟨o,s,h1,h2,h3⟩ | ⟨s,b,h1,h2,h3,h4,h5⟩
   ·rw [h1,h3]
    cases o with
    | normal=>exact absurd rfl h2
    | exit i=>rfl
    | ret=>rfl
   ·rw [h1,kLoop_n,h2,← h5]
    exact loop_by head I μ res h h3 (by omega)
end Nun
end
section
namespace Nun
open Go Go.RowKit Go.Proofs Go.Proofs.YtmpiobfdchlikaaDoor
variable {lib:Callee}
theorem big_on:big=18446744073709551615+1:=by decide
def cl (m:List (Nat × Nat)):List Loc:=m.map fun q=>.cell q.1 q.2
theorem cl_cells:∀ m:List (Nat × Nat),cellsO (cl m)=cl m
 | []=>rfl
 | q::m=>by show cellsO (.cell q.1 q.2::cl m)=_;rw [cellsO_c,cl_cells m];rfl
theorem cl_slots:∀ m:List (Nat × Nat),slotsO (cl m)=[]
 | []=>rfl
 | q::m=>by show slotsO (.cell q.1 q.2::cl m)=_;rw [slotsO_c,cl_slots m]
theorem cl_owns {i:Nat}:∀ m:List (Nat × Nat),owns (cl m) (.slot i)=false
 | []=>rfl
 | q::m=>by show owns (.cell q.1 q.2::cl m) (.slot i)=_;rw [owns_cs,cl_owns m]
theorem cl_keep (m:List (Nat × Nat)):∀ l:List Nat,keepO (cl m) l=[]
 | []=>rfl
 | i::l=>by rw [keepO_cons,cl_owns,cl_keep m l];rfl
theorem cl_drop {d:Nat}:∀ m:List (Nat × Nat),dropSlot d (cl m)=cl m
 | []=>rfl
 | q::m=>by show dropSlot d (.cell q.1 q.2::cl m)=_;rw [dropSlot_c,cl_drop m];rfl
theorem cl_under {n:Nat}:∀ m:List (Nat × Nat),(∀ q∈m,q.1<n)→underO n (cl m)=cl m
 | [],_=>rfl
 | q::m,h=>by
   show underO n (.cell q.1 q.2::cl m)=_
   rw [underO_c,if_pos (h q (by simp)),cl_under m fun q hq=>h q (by simp [hq])];rfl
theorem trim_same {nb:Nat} {vs:List PV} {bx:Boxes} (h:bx.length=nb):trim nb vs bx=bx:=by unfold trim;rw [if_pos h]
theorem cl_nil:cl []=[]:=rfl
theorem cl_dropL {b o:Nat}:∀ m:List (Nat × Nat),(∀ q∈m,q≠(b,o))→dropL (.cell b o) (cl m)=cl m
 | [],_=>rfl
 | q::m,h=>by
   show dropL (.cell b o) (.cell q.1 q.2::cl m)=_
   rw [dropL_cc,if_neg (fun k=>h q (by simp) (Prod.ext k.1 k.2)),cl_dropL m fun q hq=>h q (by simp [hq])];rfl
theorem cl_dropC {b o:Nat}:∀ m:List (Nat × Nat),(∀ q∈m,q≠(b,o))→dropC b o 1 (cl m)=cl m
 | [],_=>rfl
 | q::m,h=>by
   show dropC b o 1 (.cell q.1 q.2::cl m)=_
   rw [dropC_c,if_neg (fun k=>h q (by simp) (Prod.ext k.1 (by omega))),cl_dropC m fun q hq=>h q (by simp [hq])];rfl
def runS {σ ρ:Type} (step:σ→σ ⊕ ρ) (d:ρ):Nat→σ→ρ
 | 0,_=>d
 | n+1,a=>match step a with
   | .inl b=>runS step d n b
   | .inr r=>r
theorem runS_inl {σ ρ:Type} {step:σ→σ ⊕ ρ} {d:ρ} {n:Nat} {a b:σ} (h:step a=.inl b):runS step d (n+1) a=runS step d n b:=by simp only [runS,h]
theorem runS_inr {σ ρ:Type} {step:σ→σ ⊕ ρ} {d r:ρ} {n:Nat} {a:σ} (h:step a=.inr r):runS step d (n+1) a=r:=by simp only [runS,h]
theorem pre_len {p s:Str} (h:p.isPrefixOf s=true):p.length≤s.length:=(List.isPrefixOf_iff_prefix.1 h).length_le
theorem wr64 {k m:Nat} (h:k+m<9223372036854775808):IntKind.i64.wrap ((k:Int)+(m:Int))=((k+m:Nat):Int):=by rw [wrap64 (by omega)];rfl
theorem wr1 {k:Nat} (h:k+1<9223372036854775808):IntKind.i64.wrap ((k:Int)+1)=((k+1:Nat):Int):=wr64 (m:=1) h
theorem low_app {n:Nat}:∀ {bx by_:Boxes},boxLows n (bx++by_)=(boxLows n bx && boxLows n by_)
 | [],by_=>by rw [List.nil_append,boxLows_nil,Bool.true_and]
 | p::l,by_=>by rw [List.cons_append,boxLows_cons,boxLows_cons,low_app,Bool.and_assoc]
theorem cl_dropN {b o m:Nat}:∀ r:List (Nat × Nat),(∀ q∈r,q.1<b)→dropC b o m (cl r)=cl r
 | [],_=>rfl
 | q::r,h=>by
   have h1:=h q List.mem_cons_self
   have h2:=cl_dropN (o:=o) (m:=m) r fun x hx=>h x (List.mem_cons_of_mem _ hx)
   show dropC b o m (Loc.cell q.1 q.2::cl r)=Loc.cell q.1 q.2::cl r
   rw [dropC_c,h2]
   rw [if_neg (by omega)]
mutual
theorem pv_low_le {n m:Nat} (h:n≤m):∀ v:PV,v.low n=true→v.low m=true
 | .ptr b _,k=>by simp only [PV.low,decide_eq_true_eq] at k ⊢;omega
 | .yld b,k=>by simp only [PV.low,decide_eq_true_eq] at k ⊢;omega
 | .bsl b _ _,k=>by simp only [PV.low,decide_eq_true_eq] at k ⊢;omega
 | .slc _ cs,k=>by simp only [PV.low] at k ⊢;exact lows_le h cs k
 | .agg cs,k=>by simp only [PV.low] at k ⊢;exact lows_le h cs k
 | .tup cs,k=>by simp only [PV.low] at k ⊢;exact lows_le h cs k
 | .elt cs,k=>by simp only [PV.low] at k ⊢;exact lows_le h cs k
 | .clo _ cs,k=>by simp only [PV.low] at k ⊢;exact lows_le h cs k
 | .lp _ _ _ _ cs,k=>by simp only [PV.low] at k ⊢;exact lows_le h cs k
 | .flat _,_=>rfl
 | .unk,_=>rfl
theorem lows_le {n m:Nat} (h:n≤m):∀ l:List PV,lows n l=true→lows m l=true
 | [],_=>rfl
 | v::l,k=>by
   simp only [lows,Bool.and_eq_true] at k ⊢
   exact ⟨pv_low_le h v k.1,lows_le h l k.2⟩
end
theorem boxLows_le {n m:Nat} (h:n≤m):∀ l:Boxes,boxLows n l=true→boxLows m l=true
 | [],_=>rfl
 | q::l,hl=>by
   rw [boxLows_cons,Bool.and_eq_true] at hl ⊢
   exact ⟨lows_le h _ hl.1,boxLows_le h l hl.2⟩
theorem cl_lt {n:Nat}:∀ r:List (Nat × Nat),(∀ q∈r,q.1<n)→ltO n (cl r)=cl r
 | [],_=>rfl
 | q::r,h=>by
   have h1:=h q List.mem_cons_self
   have h2:=cl_lt (n:=n) r fun x hx=>h x (List.mem_cons_of_mem _ hx)
   show ltO n (Loc.cell q.1 q.2::cl r)=Loc.cell q.1 q.2::cl r
   rw [ltO_c,if_pos h1,h2]
def walkL {α β:Type} (f:α→Nat→β→α ⊕ (Out × St)) (fin:α→Out × St):α→Nat→List β→Out × St
 | a,_,[]=>fin a
 | a,k,x::t=>match f a k x with
   | .inl a'=>walkL f fin a' (k+1) t
   | .inr r=>r
theorem loop_idx {α β:Type} {body:St→Option (Out × St)} {live:List Nat} {nb:Nat} (head:α→Nat→St) (L:List β) (I:α→Nat→Prop) (f:α→Nat→β→α ⊕ (Out × St)) (fin:α→Out × St)
 (hr:∀ a k x,I a k→k<L.length→L[k]? =some x→L.drop k=x::L.drop (k+1) →
   (∃ a' s,f a k x=.inl a'∧body (head a k)=some (.normal,s)∧s.only live nb=head a' (k+1)∧I a' (k+1))∨(∃ r,f a k x=.inr r∧body (head a k)=some r∧r.1≠.normal))
 (he:∀ a,I a L.length→body (head a L.length)=some (fin a)∧(fin a).1≠.normal) (a:α) (ha:I a 0) (hL:L.length<big) :
 evLoop body live nb big (head a 0)=some (walkL f fin a 0 L):=by
 have hloop:=loop_by (body:=body) (live:=live) (nb:=nb) (fun q:α × Nat=>head q.1 q.2) (fun q=>I q.1 q.2∧q.2≤L.length) (fun q=>L.length - q.2)
  (fun q=>walkL f fin q.1 q.2 (L.drop q.2)) (fun ⟨a,k⟩ ha=>?_) (n:=big) (a:=(a,0)) ⟨ha,Nat.zero_le _⟩ (by dsimp only;omega)
 ·exact hloop
 ·dsimp only at ha ⊢
  obtain ⟨ha,hk⟩:=ha
  by_cases hlt:k<L.length
  ·have hc:L[k]? =some L[k]:=List.getElem?_eq_getElem hlt
   have hd:L.drop k=L[k]::L.drop (k+1):=List.drop_eq_getElem_cons hlt
   rcases hr a k L[k] ha hlt hc hd with ⟨a',s,h1,h2,h3,h4⟩ | ⟨r,h1,h2,h3⟩
   ·right
    exact ⟨s,(a',k+1),h2,h3,⟨h4,hlt⟩,by dsimp only;omega,by dsimp only;rw [hd,walkL,h1]⟩
   ·left
    exact ⟨r.1,r.2,h2,h3,by rw [hd,walkL,h1]⟩
  ·left
   obtain rfl:k=L.length:=by omega
   obtain ⟨h1,h2⟩:=he a ha
   exact ⟨(fin a).1,(fin a).2,h1,h2,by rw [List.drop_length,walkL]⟩
theorem loop_at {α β:Type} {body:St→Option (Out × St)} {live:List Nat} {nb:Nat} (head:α→Nat→St) (L:List β) (I:α→Nat→Prop) (f:α→Nat→β→α ⊕ (Out × St)) (fin:α→Out × St)
 (hr:∀ a k x,I a k→k<L.length→L[k]? =some x→L.drop k=x::L.drop (k+1)→body (head a k)=match f a k x with | .inl a'=>some (.normal,head a' (k+1)) | .inr r=>some r)
 (ho:∀ a k,(head a k).only live nb=head a k) (hI:∀ a k x a',I a k→k<L.length→L[k]? =some x→f a k x=.inl a'→I a' (k+1)) (hn:∀ a k x r,f a k x=.inr r→r.1≠.normal)
 (he:∀ a,I a L.length→body (head a L.length)=some (fin a)) (hf:∀ a,(fin a).1≠.normal) (a:α) (ha:I a 0) (hL:L.length<big) :
 evLoop body live nb big (head a 0)=some (walkL f fin a 0 L) :=
 loop_idx head L I f fin (fun a k x hi hk hx hd=>by
  have h:=hr a k x hi hk hx hd
  cases hq:f a k x with
  | inl a' =>
    rw [hq] at h
    exact .inl ⟨a',_,rfl,h,ho a' (k+1),hI a k x a' hi hk hx hq⟩
  | inr r =>
    rw [hq] at h
    exact .inr ⟨r,rfl,h,hn a k x r hq⟩) (fun a hi=>⟨he a hi,hf a⟩) a ha hL
theorem walk_all {β:Type} {p:β→Bool} {r:Out × St} {fin:Unit→Out × St}:∀ (L:List β) (k:Nat),walkL (fun (_:Unit) _ x=>if p x then .inl () else .inr r) fin () k L=if L.all p then fin () else r
 | [],k=>rfl
 | x::t,k=>by
   rw [walkL,List.all_cons]
   cases hp:p x with
   | true=>rw [if_pos rfl,Bool.true_and];exact walk_all t _
   | false=>rw [if_neg (by simp),Bool.false_and,if_neg (by simp)]
def at1 (c:UInt8):Str→Option Nat
 | []=>none
 | x::l=>if x=c then some 0 else (at1 c l).map (·+1)
def LibIdx (lib:Callee):Prop:=∀ (s:Str) (c:UInt8),s.length≤1000000000→lib 43 [.flat (.string (S s)),.flat (.int .u8 c.toNat)] [] []=some ([.flat (.int .i64 (match at1 c s with | some i=>(i:Int) | none=>-1))],false,[],[])
theorem idx_ev (H:LibIdx lib) (s:Str) (c:UInt8) (h:s.length≤1000000000):evW code lib 43 [.flat (.string (S s)),.flat (.int .u8 c.toNat)] [] []=some ([.flat (.int .i64 (match at1 c s with | some i=>(i:Int) | none=>-1))],false,[],[]) :=
 evW_lib (by decide) (by kernel_rfl) (H s c h)
def scells (l:List Str):List PV:=l.map fun x=>.flat (.string (S x))
theorem scells_len {l:List Str}:(scells l).length=l.length:=by simp [scells]
theorem scells_app {a b:List Str}:scells a++scells b=scells (a++b):=by simp [scells]
theorem scells_noU8:∀ a:List Str,noU8 (scells a)=true
 | []=>rfl
 | c::a=>by show noU8 (.flat (.string (S c))::scells a)=true;rw [noU8_cons,scells_noU8 a];rfl
theorem scells_low {n:Nat}:∀ a:List Str,lows n (scells a)=true
 | []=>rfl
 | c::a=>by show lows n (.flat (.string (S c))::scells a)=true;simp only [lows,PV.low,scells_low a,Bool.true_and]
def LibPre (lib:Callee):Prop:=∀ s p:Str,s.length≤1000000000→p.length≤1000000000→lib 29 [.flat (.string (S s)),.flat (.string (S p))] [] []=some ([.flat (.bool (p.isPrefixOf s))],false,[],[])
theorem scells_np:∀ a:List Str,noPtrs (scells a)=true
 | []=>rfl
 | c::a=>by show noPtrs (.flat (.string (S c))::scells a)=true;simp only [noPtrs,PV.noPtr,scells_np a,Bool.true_and]
theorem at1_in (c:UInt8):∀ s:Str,(at1 c s).isSome=s.contains c
 | []=>rfl
 | x::l=>by
   have:=at1_in c l
   rw [List.contains_cons,← this]
   by_cases h:x=c
   ·simp only [at1,h,if_true,Option.isSome_some,BEq.rfl,Bool.true_or]
   ·have h2:(c == x)=false:=by simpa using fun e=>h e.symm
    simp only [at1,h,if_false,Option.isSome_map,h2,Bool.false_or]
end Nun
end
section
namespace Nun
open Go
theorem ilt_t {a b:Int} (h:a<b):(a<b)=True:=eq_true h
theorem ilt_f {a b:Int} (h:b≤a):(a<b)=False:=eq_false (by omega)
theorem ile_t {a b:Int} (h:a≤b):(a≤b)=True:=eq_true h
theorem ile_f {a b:Int} (h:b<a):(a≤b)=False:=eq_false (by omega)
theorem ieq_t {a b:Int} (h:a=b):(a=b)=True:=eq_true h
theorem ieq_f {a b:Int} (h:a<b∨b<a):(a=b)=False:=eq_false (by omega)
theorem nlt_t {a b:Nat} (h:a<b):(a<b)=True:=eq_true h
theorem nlt_f {a b:Nat} (h:b≤a):(a<b)=False:=eq_false (by omega)
theorem nle_t {a b:Nat} (h:a≤b):(a≤b)=True:=eq_true h
theorem nle_f {a b:Nat} (h:b<a):(a≤b)=False:=eq_false (by omega)
theorem neq_t {a b:Nat} (h:a=b):(a=b)=True:=eq_true h
theorem neq_f {a b:Nat} (h:a<b∨b<a):(a=b)=False:=eq_false (by omega)
theorem wr_64 {x:Int} (h1:-9223372036854775808≤x) (h2:x<9223372036854775808):IntKind.i64.wrap x=x:=wrap64 ⟨h1,h2⟩
theorem wr_8 {x:Int} (h1:0≤x) (h2:x<256):IntKind.u8.wrap x=x:=wrap8 ⟨h1,h2⟩
theorem wr_32 {x:Int} (h1:-2147483648≤x) (h2:x<2147483648):IntKind.i32.wrap x=x:=wrap32 ⟨h1,h2⟩
theorem u8_nat (a b:UInt8):(a=b)=(a.toNat=b.toNat):=by rw [UInt8.toNat_inj]
theorem tn_add (k m:Nat):((k:Int)+(m:Int)).toNat=k+m:=by omega
theorem tn_1 (k:Nat):((k:Int)+1).toNat=k+1:=by omega
theorem tn_2 (k:Nat):((k:Int)+2).toNat=k+2:=by omega
theorem tn_3 (k:Nat):((k:Int)+3).toNat=k+3:=by omega
theorem ile_lit {n m:Nat}:((n:Int)≤(no_index (@OfNat.ofNat Int m instOfNat)))=(n≤@OfNat.ofNat Nat m (instOfNatNat m)):=propext Int.ofNat_le
theorem ile_lil {n m:Nat}:((no_index (@OfNat.ofNat Int m instOfNat))≤(n:Int))=(@OfNat.ofNat Nat m (instOfNatNat m)≤n):=propext Int.ofNat_le
theorem ilt_lit {n m:Nat}:((n:Int)<(no_index (@OfNat.ofNat Int m instOfNat)))=(n<@OfNat.ofNat Nat m (instOfNatNat m)):=propext Int.ofNat_lt
theorem ilt_lil {n m:Nat}:((no_index (@OfNat.ofNat Int m instOfNat))<(n:Int))=(@OfNat.ofNat Nat m (instOfNatNat m)<n):=propext Int.ofNat_lt
theorem ieq_lit {n m:Nat}:((n:Int)=(no_index (@OfNat.ofNat Int m instOfNat)))=(n=@OfNat.ofNat Nat m (instOfNatNat m)):=propext Int.ofNat_inj
theorem ieq_lil {n m:Nat}:((no_index (@OfNat.ofNat Int m instOfNat))=(n:Int))=(@OfNat.ofNat Nat m (instOfNatNat m)=n):=propext Int.ofNat_inj
theorem ile_nn {n m:Nat}:((n:Int)≤(m:Int))=(n≤m):=propext Int.ofNat_le
theorem ilt_nn {n m:Nat}:((n:Int)<(m:Int))=(n<m):=propext Int.ofNat_lt
theorem ieq_nn {n m:Nat}:((n:Int)=(m:Int))=(n=m):=propext Int.ofNat_inj
end Nun
namespace Go.Proofs.YtmpiobfdchlikaaDoor
open Go Nun
theorem au:(((((type_of% @ile_lit)∧((type_of% @ile_lil)∧(type_of% @ilt_lit)))∧(((type_of% @ilt_lil)∧(type_of% @ieq_lit))∧((type_of% @ieq_lil)∧(type_of% @ile_nn))))∧((((type_of% @ilt_nn)∧(type_of% @ieq_nn))∧((type_of% @ilt_t)∧(type_of% @ilt_f)))∧(((type_of% @ile_t)∧(type_of% @ile_f))∧((type_of% @ieq_t)∧(type_of% @ieq_f)))))∧(((((type_of% @nlt_t)∧(type_of% @nlt_f))∧((type_of% @nle_t)∧(type_of% @nle_f)))∧(((type_of% @neq_t)∧(type_of% @neq_f))∧((type_of% @wr_64)∧(type_of% @wr_8))))∧((((type_of% @wr_32)∧(type_of% @S_size))∧((type_of% @S_get)∧(type_of% @S_ext)))∧(((type_of% @S_app)∧(type_of% @S_eqB))∧((type_of% @mk_S)∧(type_of% @kByte_some))))))∧(((((type_of% @decide_eq_true_eq)∧((type_of% @decide_eq_false_iff_not)∧(type_of% @Int.toNat_natCast)))∧(((type_of% @tn_add)∧(type_of% @tn_1))∧((type_of% @tn_2)∧(type_of% @tn_3))))∧((((type_of% @cl_keep)∧(type_of% @cl_owns))∧((type_of% @cl_cells)∧(type_of% @cl_drop)))∧(((type_of% @cl_slots)∧(type_of% @cl_under))∧((type_of% @cl_dropC)∧(type_of% @cl_dropL)))))∧(((((type_of% @dropCs_nil)∧(type_of% @List.length_set.{0}))∧((type_of% @List.take_length.{0})∧(type_of% @List.set_set.{0})))∧(((type_of% @List.append_assoc.{0})∧(type_of% @Bool.or_true))∧((type_of% @Bool.true_or)∧(type_of% @Bool.or_false))))∧((((type_of% @Bool.false_or)∧(type_of% @Bool.cond_true.{0}))∧((type_of% @Bool.cond_false.{0})∧(type_of% @Int.natCast_add)))∧(((type_of% @Int.natCast_one)∧(type_of% @n0))∧((type_of% @n1)∧(type_of% @n2)))))) :=
 ⟨⟨⟨⟨⟨@ile_lit,⟨@ile_lil,@ilt_lit⟩⟩,⟨⟨@ilt_lil,@ieq_lit⟩,⟨@ieq_lil,@ile_nn⟩⟩⟩,⟨⟨⟨@ilt_nn,@ieq_nn⟩,⟨@ilt_t,@ilt_f⟩⟩,⟨⟨@ile_t,@ile_f⟩,⟨@ieq_t,@ieq_f⟩⟩⟩⟩,⟨⟨⟨⟨@nlt_t,@nlt_f⟩,⟨@nle_t,@nle_f⟩⟩,⟨⟨@neq_t,@neq_f⟩,⟨@wr_64,@wr_8⟩⟩⟩,⟨⟨⟨@wr_32,@S_size⟩,⟨@S_get,@S_ext⟩⟩,⟨⟨@S_app,@S_eqB⟩,⟨@mk_S,@kByte_some⟩⟩⟩⟩⟩,⟨⟨⟨⟨@decide_eq_true_eq,⟨@decide_eq_false_iff_not,@Int.toNat_natCast⟩⟩,⟨⟨@tn_add,@tn_1⟩,⟨@tn_2,@tn_3⟩⟩⟩,⟨⟨⟨@cl_keep,@cl_owns⟩,⟨@cl_cells,@cl_drop⟩⟩,⟨⟨@cl_slots,@cl_under⟩,⟨@cl_dropC,@cl_dropL⟩⟩⟩⟩,⟨⟨⟨⟨@dropCs_nil,@List.length_set.{0}⟩,⟨@List.take_length.{0},@List.set_set.{0}⟩⟩,⟨⟨@List.append_assoc.{0},@Bool.or_true⟩,⟨@Bool.true_or,@Bool.or_false⟩⟩⟩,⟨⟨⟨@Bool.false_or,@Bool.cond_true.{0}⟩,⟨@Bool.cond_false.{0},@Int.natCast_add⟩⟩,⟨⟨@Int.natCast_one,@n0⟩,⟨@n1,@n2⟩⟩⟩⟩⟩⟩
end Go.Proofs.YtmpiobfdchlikaaDoor
end
section
namespace Nun
open Go Go.RowKit
abbrev Thr:=Value × Boxes × List Loc
abbrev Throws:=FuncId→List PV→Boxes→List Loc→Thr→Prop
abbrev ThrS:=Value × List PV × Boxes × List Loc
inductive Rt where
 | op (f:FuncId) (k:Nat)
 | l (r:Rt)
 | r (r:Rt)
 | lp (m:Nat) (r:Rt)
 | rg
def targetOf (st:St):COp→Option (FuncId × List PV)
 | .call f args=>some (f,args.map fun x=>(x.ev st.sl).weak)
 | .callv g args=>match g.ev st.sl with
   | .clo f caps=>if f=yldF then none else some (f,(args.map fun x=>(x.ev st.sl).weak)++caps)
   | _=>none
 | _=>none
def PanCall (pf:Throws) (kl:List Nat) (st:St) (f:FuncId) (args:List PV) (q:ThrS):Prop :=
 q.2.1=kl.map (look st.sl)∧if noPtrs args=true then (∃ bx oc,pf f args [] [] (q.1,bx,oc))∧q.2.2=(st.bx,st.ow.filter isCell) else pf f args st.bx (st.ow.filter isCell) (q.1,q.2.2)
def PanS (cf:Callee) (pf:Throws) (kl:List Nat) (f:FuncId) (o:COper) (k:Nat) (st:St) (q:ThrS) (K:Nat→St→Prop):Prop:=match guardOk st o.g with
 | some true=>(match targetOf st o.op with
   | some (g,args)=>if g=f then (match k with
    | 0=>PanCall pf kl st f args q
    | k+1=>match stepG cf st o with | some st'=>K k st' | none=>False)
     else match stepG cf st o with | some st'=>K k st' | none=>False
   | none=>match stepG cf st o with | some st'=>K k st' | none=>False)
 | _=>match stepG cf st o with | some st'=>K k st' | none=>False
def PanOps (cf:Callee) (pf:Throws) (kl:List Nat) (f:FuncId):List COper→Nat→St→ThrS→Prop
 | [],_,_,_=>False
 | o::r,k,st,q=>PanS cf pf kl f o k st q fun k st'=>PanOps cf pf kl f r k st' q
def PanT (cf:Callee) (pf:Throws) (kl:List Nat) (f:FuncId):BT→Nat→St→ThrS→Prop
 | .done,_,_,_=>False
 | .one o t,k,st,q=>PanS cf pf kl f o k st q fun k st'=>PanT cf pf kl f t k st' q
 | .two o t r,k,st,q=>(PanS cf pf kl f o k st q fun k st'=>PanT cf pf kl f t k st' q)∧PanT cf pf kl f r k st q
def PanLoop (body:St→Option (Out × St)) (pbody:St→Prop) (live:List Nat) (nb:Nat):Nat→St→Prop
 | 0,st=>pbody st
 | n+1,st=>match body st with
   | some (.normal,st')=>PanLoop body pbody live nb n (st'.only live nb)
   | _=>False
def PanRange (pf:Throws) (kl:List Nat) (f k:Nat) (live:List Nat) (g:PV) (st:St) (q:ThrS):Prop:=match g with
 | .clo h caps=>h≠yldF∧q.2.1=kl.map (look st.sl)∧pf h (.yld st.bx.length::caps) (st.bx++[(0,[.lp f k .ready live (live.map (look st.sl))])]) (st.ow.filter isCell) (q.1,q.2.2)
 | _=>False
def PanC (cf:Callee) (pf:Throws) (kl:List Nat) (n:Nat):CCode→Rt→St→ThrS→Prop
 | .reg _ [] tail,.op f k,st,q=>PanOps cf pf kl f tail k st q
 | .regT _ pre t,.op f k,st,q=>(pre.all fun o=>match o.dst with | some d=>!kl.contains d | none=>true)=true∧match evQ cf pre st with
   | some s=>PanT cf pf kl f t k s q
   | none=>False
 | .seq a _,.l r,st,q=>PanC cf pf kl n a r st q
 | .seq a b,.r r,st,q=>match evC cf n a st with
   | some (.normal,st')=>PanC cf pf kl n b r st' q
   | _=>False
 | .cond c a b,r,st,q=>match c.ev st.sl with
   | .flat (.bool t)=>if t then PanC cf pf kl n a r st q else PanC cf pf kl n b r st q
   | _=>False
 | .block _ b,r,st,q=>PanC cf pf kl n b r st q
 | .loop live b,.lp m r,st,q=>PanLoop (evC cf n b) (fun s=>PanC cf pf kl n b r s q) live st.bx.length m (st.only live st.bx.length)
 | .range f k live g,.rg,st,q=>PanRange pf kl f k live (g.ev st.sl) st q
 | _,_,_,_=>False
def PanF (code:FuncId→Option CFun) (cf:Callee) (n0:Nat) (plib:Throws):Nat→Throws
 | 0,_,_,_,_,_=>False
 | n+1,f,args,bx,oc,q=>match code f with
   | none=>f≠yldF∧plib f args bx oc q
   | some c=>args.length≤c.nt∧∃ rt q0,PanC cf (PanF code cf n0 plib n) [] n0 c.body rt { sl:=initSl 0 args,ow:=oc,al:=[],bx } q0∧q=(q0.1,trim bx.length [] q0.2.2.1,cellsUpto (trim bx.length [] q0.2.2.1).length q0.2.2.2)
section
variable {P:Program} {w w':World} {r:Option Nat} {Fr Fr':Nat→Nat} {β β':List Nat} {T:List Deferred} {base nt:Nat} {M:Nat→Prop} {w0:World} {F0:Nat→Nat} {st st':St} {a a':Act} {cf:Callee} {pf:Throws} {Γ:Glob} {S:S0}
end
section
variable {cf:Callee} {pf pf':Throws}
theorem PanCall.mono (h:∀ f args bx oc q,pf f args bx oc q→pf' f args bx oc q) {st:St} {f:FuncId} {args:List PV} {kl:List Nat} {q:ThrS} (k:PanCall pf kl st f args q):PanCall pf' kl st f args q:=by
 unfold PanCall at k ⊢
 obtain ⟨k0,k⟩:=k
 refine ⟨k0,?_⟩
 split
 ·rename_i hc
  rw [if_pos hc] at k
  obtain ⟨⟨bx,oc,k1⟩,k2⟩:=k
  exact ⟨⟨bx,oc,h _ _ _ _ _ k1⟩,k2⟩
 ·rename_i hc
  rw [if_neg hc] at k
  exact h _ _ _ _ _ k
theorem PanS.mono (h:∀ f args bx oc q,pf f args bx oc q→pf' f args bx oc q) {f:FuncId} {o:COper} {k:Nat} {st:St} {kl:List Nat} {q:ThrS} {K K':Nat→St→Prop} (hK:∀ k s,K k s→K' k s) (hp:PanS cf pf kl f o k st q K):PanS cf pf' kl f o k st q K':=by
 have next:∀ {m},(match stepG cf st o with | some st'=>K m st' | none=>False)→(match stepG cf st o with | some st'=>K' m st' | none=>False):=fun {m} hm=>by
  split at hm
  ·exact hK _ _ hm
  ·exact hm.elim
 unfold PanS at hp ⊢
 split at hp
 ·split at hp
  ·split at hp
   ·rename_i hgf
    rw [if_pos hgf]
    split at hp
    ·exact hp.mono h
    ·exact next hp
   ·rename_i hgf
    rw [if_neg hgf];exact next hp
  ·exact next hp
 ·exact next hp
theorem PanOps.mono (h:∀ f args bx oc q,pf f args bx oc q→pf' f args bx oc q) {f:FuncId} {kl:List Nat} {q:ThrS}:∀ (l:List COper) (k:Nat) (st:St),PanOps cf pf kl f l k st q→PanOps cf pf' kl f l k st q
 | [],_,_,hp=>hp
 | o::r,k,st,hp=>PanS.mono h (fun k s=>PanOps.mono h r k s) hp
theorem PanT.mono (h:∀ f args bx oc q,pf f args bx oc q→pf' f args bx oc q) {f:FuncId} {kl:List Nat} {q:ThrS}:∀ (t:BT) (k:Nat) (st:St),PanT cf pf kl f t k st q→PanT cf pf' kl f t k st q
 | .done,_,_,hp=>hp
 | .one o t,k,st,hp=>PanS.mono h (fun k s=>PanT.mono h t k s) hp
 | .two o t r,k,st,hp=>⟨PanS.mono h (fun k s=>PanT.mono h t k s) hp.1,PanT.mono h r k st hp.2⟩
theorem PanLoop.mono {body:St→Option (Out × St)} {p p':St→Prop} (h:∀ s,p s→p' s) {live:List Nat} {nb:Nat}:∀ (n:Nat) (st:St),PanLoop body p live nb n st→PanLoop body p' live nb n st
 | 0,st,k=>h st k
 | n+1,st,k=>by
   unfold PanLoop at k ⊢
   split at k
   ·exact PanLoop.mono h n _ k
   ·exact k.elim
theorem PanC.mono (h:∀ f args bx oc q,pf f args bx oc q→pf' f args bx oc q) {n:Nat} {kl:List Nat} {q:ThrS}:∀ (c:CCode) (rt:Rt) (st:St),PanC cf pf kl n c rt st q→PanC cf pf' kl n c rt st q:=by
 intro c
 induction c with
 | reg live pre tail =>
   intro rt st k
   cases rt with
   | op f i=>cases pre with
     | nil=>exact PanOps.mono h _ _ _ k
     | cons p pre=>exact k.elim
   | _=>cases pre<;>exact k.elim
 | regT live pre t =>
   intro rt st k
   cases rt with
   | op f i =>
     simp only [PanC] at k ⊢
     refine ⟨k.1,?_⟩
     have k:=k.2
     split at k
     ·exact PanT.mono h _ _ _ k
     ·exact k.elim
   | _=>exact k.elim
 | seq a b iha ihb =>
   intro rt st k
   cases rt with
   | l rt=>exact iha rt st k
   | r rt =>
     simp only [PanC] at k ⊢
     split at k
     ·exact ihb rt _ k
     ·exact k.elim
   | _=>exact k.elim
 | cond c a b iha ihb =>
   intro rt st k
   simp only [PanC] at k ⊢
   split at k
   ·rename_i t e
    cases t with
    | true=>exact iha rt st k
    | false=>exact ihb rt st k
   ·exact k.elim
 | block id b ih=>intro rt st k;exact ih rt st k
 | loop live b ih =>
   intro rt st k
   cases rt with
   | lp m rt=>exact PanLoop.mono (fun s=>ih rt s) _ _ k
   | _=>exact k.elim
 | range f i live g =>
   intro rt st k
   cases rt with
   | rg =>
     simp only [PanC] at k ⊢
     unfold PanRange at k ⊢
     split at k
     ·exact ⟨k.1,k.2.1,h _ _ _ _ _ k.2.2⟩
     ·exact k.elim
   | _=>exact k.elim
 | skip=>intro rt st k;cases rt<;>exact k.elim
 | exit id live=>intro rt st k;cases rt<;>exact k.elim
 | ret live=>intro rt st k;cases rt<;>exact k.elim
theorem PanC.depth {PF:Nat→Throws} (hm:∀ n m,n≤m→∀ f args bx oc q,PF n f args bx oc q→PF m f args bx oc q) {n:Nat} {kl:List Nat} {q:ThrS}:∀ (c:CCode) (rt:Rt) (st:St),PanC cf (fun f args bx oc q=>∃ m,PF m f args bx oc q) kl n c rt st q→∃ m,PanC cf (PF m) kl n c rt st q:=by
 have call:∀ {st f args},PanCall (fun f args bx oc q=>∃ m,PF m f args bx oc q) kl st f args q→∃ m,PanCall (PF m) kl st f args q:=fun {st f args} k=>by
  unfold PanCall at k ⊢
  obtain ⟨k0,k⟩:=k
  split at k
  ·rename_i hc
   obtain ⟨⟨bx,oc,m,k1⟩,k2⟩:=k
   exact ⟨m,k0,by rw [if_pos hc];exact ⟨⟨bx,oc,k1⟩,k2⟩⟩
  ·rename_i hc
   obtain ⟨m,k⟩:=k
   exact ⟨m,k0,by rw [if_neg hc];exact k⟩
 have step:∀ {f o k st} {K:Nat→St→Prop} {K':Nat→Nat→St→Prop},(∀ k s,K k s→∃ m,K' m k s)→PanS cf (fun f args bx oc q=>∃ m,PF m f args bx oc q) kl f o k st q K→∃ m,PanS cf (PF m) kl f o k st q (K' m):=fun {f o k st K K'} hK hp=>by
  have next:∀ {j},(match stepG cf st o with | some st'=>K j st' | none=>False)→∃ m,(match stepG cf st o with | some st'=>K' m j st' | none=>False):=fun {j} hj=>by
   split at hj
   ·rename_i st' hs;obtain ⟨m,hk⟩:=hK _ _ hj;exact ⟨m,hk⟩
   ·exact hj.elim
  unfold PanS at hp ⊢
  split at hp
  ·rename_i hg
   split at hp
   ·rename_i g args ht
    split at hp
    ·rename_i hgf
     split at hp
     ·obtain ⟨m,hc⟩:=call hp;exact ⟨m,by rw [if_pos hgf];exact hc⟩
     ·obtain ⟨m,hc⟩:=next hp;exact ⟨m,by rw [if_pos hgf];exact hc⟩
    ·rename_i hgf
     obtain ⟨m,hc⟩:=next hp;exact ⟨m,by rw [if_neg hgf];exact hc⟩
   ·exact next hp
  ·exact next hp
 have ops:∀ (f:FuncId) (l:List COper) (k:Nat) (st:St),PanOps cf (fun f args bx oc q=>∃ m,PF m f args bx oc q) kl f l k st q→∃ m,PanOps cf (PF m) kl f l k st q:=by
  intro f l
  induction l with
  | nil=>intro k st h;exact h.elim
  | cons o r ih=>intro k st h;exact step (K':=fun m k s=>PanOps cf (PF m) kl f r k s q) (fun k s h=>ih k s h) h
 have tree:∀ (f:FuncId) (t:BT) (k:Nat) (st:St),PanT cf (fun f args bx oc q=>∃ m,PF m f args bx oc q) kl f t k st q→∃ m,PanT cf (PF m) kl f t k st q:=by
  intro f t
  induction t with
  | done=>intro k st h;exact h.elim
  | one o t ih=>intro k st h;exact step (K':=fun m k s=>PanT cf (PF m) kl f t k s q) (fun k s h=>ih k s h) h
  | two o t r iht ihr =>
    intro k st h
    obtain ⟨m1,h1⟩:=step (K':=fun m k s=>PanT cf (PF m) kl f t k s q) (fun k s h=>iht k s h) h.1
    obtain ⟨m2,h2⟩:=ihr k st h.2
    exact ⟨max m1 m2,PanS.mono (hm m1 _ (Nat.le_max_left _ _)) (fun k s=>PanT.mono (hm m1 _ (Nat.le_max_left _ _)) t k s) h1,PanT.mono (hm m2 _ (Nat.le_max_right _ _)) r k st h2⟩
 intro c
 induction c with
 | reg live pre tail =>
   intro rt st k
   cases rt with
   | op f i=>cases pre with
     | nil=>exact ops _ _ _ _ k
     | cons p pre=>exact k.elim
   | _=>cases pre<;>exact k.elim
 | regT live pre t =>
   intro rt st k
   cases rt with
   | op f i =>
     simp only [PanC] at k ⊢
     obtain ⟨k0,k⟩:=k
     split at k
     ·obtain ⟨m,hm⟩:=tree _ _ _ _ k;exact ⟨m,k0,hm⟩
     ·exact k.elim
   | _=>exact k.elim
 | seq a b iha ihb =>
   intro rt st k
   cases rt with
   | l rt=>exact iha rt st k
   | r rt =>
     simp only [PanC] at k ⊢
     split at k
     ·exact ihb rt _ k
     ·exact k.elim
   | _=>exact k.elim
 | cond c a b iha ihb =>
   intro rt st k
   simp only [PanC] at k ⊢
   split at k
   ·rename_i t e
    cases t with
    | true=>exact iha rt st k
    | false=>exact ihb rt st k
   ·exact k.elim
 | block id b ih=>intro rt st k;exact ih rt st k
 | loop live b ih =>
   intro rt st k
   cases rt with
   | lp m rt =>
     simp only [PanC] at k ⊢
     obtain ⟨s0,hs0⟩:∃ s0,st.only live st.bx.length=s0:=⟨_,rfl⟩
     rw [hs0] at k ⊢
     clear hs0
     induction m generalizing s0 with
     | zero=>exact ih rt s0 k
     | succ m ihm =>
       unfold PanLoop at k
       split at k
       ·rename_i s1 h1
        obtain ⟨j,hj⟩:=ihm _ k
        exact ⟨j,by unfold PanLoop;rw [h1];exact hj⟩
       ·exact k.elim
   | _=>exact k.elim
 | range f i live g =>
   intro rt st k
   cases rt with
   | rg =>
     simp only [PanC] at k ⊢
     unfold PanRange at k ⊢
     split at k
     ·obtain ⟨h1,h0,m,h2⟩:=k
      exact ⟨m,h1,h0,h2⟩
     ·exact k.elim
   | _=>exact k.elim
 | skip=>intro rt st k;cases rt<;>exact k.elim
 | exit id live=>intro rt st k;cases rt<;>exact k.elim
 | ret live=>intro rt st k;cases rt<;>exact k.elim
variable {code:FuncId→Option CFun} {n0:Nat} {plib:Throws}
theorem PanF.succ:∀ (n:Nat) (f:FuncId) (args:List PV) (bx:Boxes) (oc:List Loc) (q:Thr),PanF code cf n0 plib n f args bx oc q→PanF code cf n0 plib (n+1) f args bx oc q
 | 0,_,_,_,_,_,h=>h.elim
 | n+1,f,args,bx,oc,q,h=>by
   unfold PanF at h ⊢
   split
   ·rename_i hc;rw [hc] at h;exact h
   ·rename_i c hc
    rw [hc] at h
    obtain ⟨h1,rt,q0,h2,h3⟩:=h
    exact ⟨h1,rt,q0,PanC.mono (PanF.succ n) _ _ _ h2,h3⟩
theorem PanF.le {n m:Nat} (h:n≤m):∀ (f:FuncId) (args:List PV) (bx:Boxes) (oc:List Loc) (q:Thr),PanF code cf n0 plib n f args bx oc q→PanF code cf n0 plib m f args bx oc q:=by
 induction h with
 | refl=>exact fun _ _ _ _ _ h=>h
 | step _ ih=>exact fun f args bx oc q h=>PanF.succ _ _ _ _ _ _ (ih f args bx oc q h)
end
section
variable {P:Program} {Γ:Glob} {cf:Callee}
end
end Nun
namespace Nun
open Go Go.RowKit
structure DFun where
 nt:Nat
 res:List (Sum Nat (Nat × Bool × Nat))
 pre:CCode
 d:Nat
 g:FuncId
 caps:List X
 body:CCode
def coDFun (P:Program) (qs:List FuncId) (lv1 lv2:List (List Nat)) (f:FuncId):Option DFun:=match P.funcs[f]? with
 | some fn=>match fn.body with
   | some (.seq a (.seq (.region _ ops false) b))=>(match ops.toList with
     | [⟨some d,.makeFunc (.func g) first caps,_,_,_,none⟩,⟨none,.defer ⟨.value (.tmp d'),args,_⟩,_,_,_,none⟩] =>
       if fn.name != "runtime.NumGoroutine"∧rangesOf a=[]∧rangesOf b=[]∧d=d'∧first.size=0∧args=#[]∧d<fn.ntmps∧entersB P g=true then
        (coXs caps).bind fun cs=>(coCode P qs f fn.ntmps 0 lv1 a).bind fun p=>(coCode P qs f fn.ntmps 0 lv2 b).bind fun q=>(fn.results.toList.mapM (coRes P)).map fun rs=>⟨fn.ntmps,rs,p.1,d,g,cs,q.1⟩
       else none
     | _=>none)
   | _=>none
 | none=>none
def DFun.mid (D:DFun) (s:St):St:=s.put D.d (.clo D.g (D.caps.map (·.ev s.sl)))
def finV (res:List (Sum Nat (Nat × Bool × Nat))) (n:Nat) (st:St):Option Ans:=(res.mapM (resV st)).map fun vs=>(vs,ownRes res st.ow,trim n vs st.bx,cellsUpto (trim n vs st.bx).length st.ow)
def EvD (cf:Callee) (n:Nat) (D:DFun) (args:List PV) (bx:Boxes) (oc:List Loc) (r:Ans):Prop :=
 args.length≤D.nt∧∃ o s1,evC cf n D.pre { sl:=initSl 0 args,ow:=oc,al:=[],bx }=some (o,s1) ∧
  match o with
  | .exit _=>False
  | .ret=>finV D.res bx.length s1=some r
  | .normal=>∃ o st,evC cf n D.body (D.mid s1)=some (o,st)∧(∀ i,o≠.exit i)∧finV D.res bx.length st=some r
def NopOk (P:Program) (g n:Nat):Prop:=∀ (cvs:List Value) (w:World),cvs.length=n→CallsDIn Fence.wide 0 P g cvs.toArray .returning w fun e u' w'=>(∃ v,e=.returned v)∧u'=.returning∧w'=w
section
variable {P:Program} {w w':World} {Fr Fr':Nat→Nat} {β β':List Nat} {T:List Deferred} {base nt:Nat} {M:Nat→Prop} {w0:World} {F0:Nat→Nat} {st st':St} {a a':Act} {cf:Callee} {Γ:Glob} {S:S0}
def MayNow (st:St) (a:Act) (w:World) (β:List Nat) (g:Nat):Prop:=g∈β∨∃ L∈st.ow,∃ v,valAt a w β L=some v∧v.ownBlock=some g
theorem Rel.rebase (R:Rel P T base M w0 F0 nt st a w Fr β) (ds:List Deferred):Rel P ds w.heap.size (MayNow st a w β) w Fr nt st { a with defers:=ds } w Fr β:=by
 have hv:∀ L,valAt { a with defers:=ds } w β L=valAt a w β L:=fun L=>by cases L<;>rfl
 exact ⟨R.sl,R.nt,⟨[],List.nodup_nil,rfl,fun D h=>by cases h⟩,R.bx,R.nd,fun L hL=>by rw [hv];exact R.own L hL,fun L hL L' hL' hne v v' g=>by rw [hv,hv];exact R.sep L hL L' hL' hne v v' g,fun L hL v g=>by rw [hv];exact R.out L hL v g,fun q hq=>by rw [hv];exact R.al q hq,
  fun g hg=>.inr (hg.imp id fun ⟨L,hL,v,k1,k2⟩=>⟨L,hL,v,by rw [← hv];exact k1,k2⟩),fun _ _ _=>⟨rfl,rfl⟩,Nat.le_refl _,rfl,rfl,rfl⟩
theorem Rel.back {T2 T3:List Deferred} {nt2:Nat} {st2:St} {a2:Act} {w2:World} {Fr2:Nat→Nat} {β2:List Nat} (R:Rel P T base M w0 F0 nt st a w Fr β) (R2:Rel P T2 w.heap.size (MayNow st a w β) w Fr nt2 st2 a2 w2 Fr2 β2) {ds:List Deferred} (hD:Marks T3 base w2 ds) :
 Rel P T3 base M w0 F0 nt2 st2 { a2 with defers:=ds } w2 Fr2 β2:=by
 have hv:∀ L,valAt { a2 with defers:=ds } w2 β2 L=valAt a2 w2 β2 L:=fun L=>by cases L<;>rfl
 exact ⟨R2.sl,R2.nt,hD,R2.bx,R2.nd,fun L hL=>by rw [hv];exact R2.own L hL,fun L hL L' hL' hne v v' g=>by rw [hv,hv];exact R2.sep L hL L' hL' hne v v' g,fun L hL v g=>by rw [hv];exact R2.out L hL v g,fun q hq=>by rw [hv];exact R2.al q hq,
  fun g hg=>(R2.may g (hg.imp id fun ⟨L,hL,v,k1,k2⟩=>⟨L,hL,v,by rw [← hv];exact k1,k2⟩)).elim (fun h=>.inl (Nat.le_trans R.ge h)) (fun h=>R.may g h),
  fun b hb hM=>by
   obtain ⟨k1,k2⟩:=R2.old b (Nat.lt_of_lt_of_le hb R.ge) fun h=>(R.may b h).elim (fun h=>by omega) hM
   obtain ⟨k3,k4⟩:=R.old b hb hM
   exact ⟨k1.trans k3,k2.trans k4⟩,
  Nat.le_trans R.ge R2.ge,R2.os.trans R.os,R2.tape.trans R.tape,R2.output.trans R.output⟩
theorem Rel.marks {T2:List Deferred} {nt2:Nat} {st2:St} {a2:Act} {w2:World} {Fr2:Nat→Nat} {β2:List Nat} (R:Rel P T base M w0 F0 nt st a w Fr β) (R2:Rel P T2 w.heap.size (MayNow st a w β) w Fr nt2 st2 a2 w2 Fr2 β2):Marks T base w2 a.defers:=by
 obtain ⟨Ds,d1,d2,d3⟩:=R.df
 refine ⟨Ds,d1,d2,fun D hD=>⟨(d3 D hD).1,?_⟩⟩
 have hD2:=(d3 D hD).2
 rw [(R2.old D (Array.getElem?_eq_some_iff.1 hD2).1 fun hm=>?_).1]
 ·exact hD2
 ·rcases hm with hm | ⟨L,hL,u,hu,hub⟩
  ·obtain ⟨ob,k1,k2⟩:=R.bx.at hm
   rw [hD2] at k1;cases k1
   exact k2 _ rfl
  ·obtain ⟨u',p,k1,_,n,cs,_,k2⟩:=R.own L hL
   rw [hu] at k1;cases k1
   rcases k2 with rfl | ⟨g',cap,cur,e,sz,rfl,k3,_⟩
   ·cases hub
   ·cases hub;rw [hD2] at k3;cases k3
theorem dfun_walk (hm:P.follows .mixedOrders=true) (hyn:P.funcs[yldF]? =none) (hcf:CallOk P Γ cf) {n:Nat} {qs:List FuncId} {lv1 lv2:List (List Nat)} {f:FuncId} {D:DFun} (hD:coDFun P qs lv1 lv2 f=some D) {args:List PV} {bx:Boxes} {oc:List Loc} (hlen:args.length≤D.nt)
 {vs:List Value} (hp:Pre P Γ w Fr β args vs bx oc) {s1:St} (h1:evC cf n D.pre { sl:=initSl 0 args,ow:=oc,al:=[],bx }=some (.normal,s1)) {Q:Ending→World→Prop}
 (hbody:∀ (fn:Func) (b:Code) (lv':List (List Nat)),entersB P D.g=true→fn.ntmps=D.nt→(∃ fn,P.funcs[f]? =some fn∧D.nt=fn.ntmps)→coCode P qs f D.nt 0 lv2 b=some (D.body,lv')→rangesOf b=[]→fn.results.toList.mapM (coRes P)=some D.res→∀ (a1:Act) (w1:World) (Fr1:Nat→Nat) (β1:List Nat) (cvs:List Value),
   Rel P [] w.heap.size (MayOf w β oc) w Fr D.nt (D.mid s1) a1 w1 Fr1 β1→Le w Fr β w1 Fr1 β1→Rds w1 Fr1 β1 (D.caps.map (·.ev s1.sl)) cvs→(D.mid s1).al=[] →
   b.wpIn (fw none) 0 P (bodyPostM Fence.wide 0 P fn Q) { a1 with defers:={ target:=.fn (.func D.g) cvs.toArray,args:=#[] }::a1.defers } w1):Enters P f vs w Q:=by
 unfold coDFun at hD
 split at hD
 case h_2=>cases hD
 rename_i fn hfn
 split at hD
 case h_2=>cases hD
 rename_i a id ops b hbd
 split at hD
 case h_2=>cases hD
 rename_i d g first caps ty1 pos1 af1 d' dargs dats ty2 pos2 af2 hops
 split at hD
 case isFalse=>cases hD
 rename_i hcond
 obtain ⟨hname,hra,hrb,rfl,hfirst,rfl,hdn,hent⟩:=hcond
 obtain ⟨cs,hcs,hD⟩:=Option.bind_eq_some_iff.1 hD
 obtain ⟨⟨pc,lva⟩,hpc,hD⟩:=Option.bind_eq_some_iff.1 hD
 obtain ⟨⟨bc,lvb⟩,hbc,hD⟩:=Option.bind_eq_some_iff.1 hD
 obtain ⟨rs,hrs,rfl⟩:=Option.map_eq_some_iff.1 hD
 dsimp only at h1 hbody hlen
 refine enters_of (by unfold entersB;rw [hfn];simp only [hname,hbd,Option.isSome_some,Bool.and_self]) (fun e=>by rw [e,hyn] at hfn;cases hfn) ?_
 have hS:Good Γ ⟨w.heap.size,MayOf w β oc,w,Fr,fn.ntmps,w,Fr,β,[]⟩:=⟨hp.g,fun g hg=>⟨Γ.lt w hp.g g hg,hp.dis g hg⟩⟩
 have R0:=start_ok (nt:=fn.ntmps) hp hlen
 refine callsIn_wide.1 (callsIn_of_wp_marks (n:=0) hfn hbd trivial ?_)
 refine wpIn_seq (code_sound (r:=none) hm hcf hS (f:=f) ⟨fn,hfn,rfl⟩ (fun l e=>by cases e) a 0 lv1 pc lva hpc (by rw [hra];intro j q hj;cases hj) _ s1 .normal _ w _ h1 rfl ⟨Fr,β,R0,Le.refl _ _ _⟩ fun a1 w1 hr1=>?_)
 have hal1:=evC_al pc _ _ s1 h1 rfl
 show Code.wpIn _ _ _ _ _ _ _
 have hops':ops=#[⟨some d,.makeFunc (.func g) first caps,ty1,pos1,af1,none⟩,⟨none,.defer ⟨.value (.tmp d),#[],dats⟩,ty2,pos2,af2,none⟩]:=by
  apply Array.ext';exact hops
 subst hops'
 refine wpIn_seq (wpIn_region ?_)
 have hrange:List.range (#[(⟨some d,.makeFunc (.func g) first caps,ty1,pos1,af1,none⟩:Oper),⟨none,.defer ⟨.value (.tmp d),#[],dats⟩,ty2,pos2,af2,none⟩]:Array Oper).size=[0,1]:=rfl
 rw [hrange]
 unfold wpOpsIn
 simp only [List.getElem?_toArray,List.getElem?_cons_zero,Region.wanted,if_true]
 have hsim:coSimple P (.makeFunc (.func g) first caps)=some (.clos g cs):=by
  simp only [coSimple,hfirst,if_true,hcs,Option.map_some]
 refine simple_step (cf:=cf) (S:=⟨w.heap.size,MayOf w β oc,w,Fr,fn.ntmps,w,Fr,β,[]⟩) (st':=s1.put d (.clo g (cs.map (·.ev s1.sl)))) (c:=.clos g cs) hsim rfl (fun d' e=>by cases e;exact hdn) hr1 fun a2 w2 hr2=>?_
 unfold wpOpsIn
 simp only [List.getElem?_toArray,List.getElem?_cons_zero,List.getElem?_cons_succ,Region.wanted,if_true]
 obtain ⟨Fr2,β2,R2,hl2⟩:=hr2
 have hclo:=R2.sl d
 have elk:look (s1.put d (.clo g (cs.map (·.ev s1.sl)))).sl d=.clo g (cs.map (·.ev s1.sl)):=by simp [St.put,look_cons]
 rw [elk] at hclo
 simp only [Rd] at hclo
 obtain ⟨cvs,hcv,hcr⟩:=hclo
 refine ⟨fun _ _=>trivial,?_⟩
 have hrun:((Oper.semAt Fence.wide.round a2.eval ⟨none,.defer ⟨.value (.tmp d),#[],dats⟩,ty2,pos2,af2,none⟩).run P w2)=.ok (.defer { target:=.fn (.func g) cvs.toArray,args:=#[] }) w2:=by
  rw [show Fence.wide.round=none from rfl,Oper.semAt_none]
  show (do let dd ← resolve a2.eval ⟨.value (.tmp d),#[],dats⟩ ty2;pure (Next.defer dd):Sem Next).run P w2=_
  have:a2.eval (.tmp d)=.func (.func g) #[] cvs.toArray:=hcv
  simp only [resolve,this,Deferred.ofValue,Sem.run_bind,Sem.run_pure,Result.andThen_ok]
  simp
 rw [hrun]
 show wpOpsIn _ _ _ _ _ _ _ _
 unfold wpOpsIn
 exact hbody fn b lvb hent rfl ⟨fn,hfn,rfl⟩ hbc hrb hrs a2 w2 Fr2 β2 cvs R2 hl2 hcr (by simp [DFun.mid,St.put,hal1,dropAl])
theorem dfun_end {args:List PV} {vs:List Value} {bx:Boxes} {oc:List Loc} (hp:Pre P Γ w Fr β args vs bx oc) {fn:Func} {res:List (Sum Nat (Nat × Bool × Nat))} (hrs:fn.results.toList.mapM (coRes P)=some res) {st1:St} {a1:Act} {w1:World} {Fr1:Nat→Nat} {β1:List Nat}
 (R1:Rel P [] w.heap.size (MayOf w β oc) w Fr fn.ntmps st1 a1 w1 Fr1 β1) (hl1:Le w Fr β w1 Fr1 β1) {T2:List Deferred} {st2:St} {a2:Act} {w2:World} {Fr2:Nat→Nat} {β2:List Nat} (R2:Rel P T2 w1.heap.size (MayNow st1 a1 w1 β1) w1 Fr1 fn.ntmps st2 a2 w2 Fr2 β2) (hl2:Le w1 Fr1 β1 w2 Fr2 β2)
 {r:Ans} (hf:finV res bx.length st2=some r):LeavesInM Fence.wide 0 P fn a2.tmps (fun e w'=>∃ v Fr' β',e=.returned v∧Post P w Fr β oc r.1 r.2.1 r.2.2.1 r.2.2.2 v w' Fr' β') a1.defers .returning w2:=by
 have R3:=R1.back R2 (R1.marks R2)
 exact leave_marks (S:=⟨w.heap.size,MayOf w β oc,w,Fr,fn.ntmps,w,Fr,β,[]⟩) rfl a1.defers { a2 with defers:=a1.defers } w2 rfl ⟨Fr2,β2,R3,hl1.trans hl2⟩ fun a3 w3 hr3 _=>fin_ok hrs hp.rel.bx.1 hf a3 w3 hr3
theorem good_now (hS:Good Γ S) (R:Rel P S.T S.base S.M S.w0 S.F0 S.nt st a w Fr β):∀ g,Γ.D g→g<w.heap.size∧¬ MayNow st a w β g:=fun g hg=>by
 obtain ⟨h1,h2⟩:=hS.dis g hg
 refine ⟨Nat.lt_of_lt_of_le h1 R.ge,fun h=>?_⟩
 rcases R.may g h with h | h
 ·omega
 ·exact h2 h
theorem evD_ok (hm:P.follows .mixedOrders=true) (hyn:P.funcs[yldF]? =none) (hcf:CallOk P Γ cf) {n:Nat} {qs:List FuncId} {lv1 lv2:List (List Nat)} {f:FuncId} {D:DFun} (hD:coDFun P qs lv1 lv2 f=some D) (hnop:NopOk P D.g D.caps.length) {args:List PV} {bx:Boxes} {oc:List Loc} {r:Ans} (h:EvD cf n D args bx oc r)
 {vs:List Value} (hp:Pre P Γ w Fr β args vs bx oc):Enters P f vs w fun e w'=>∃ v Fr' β',e=.returned v∧Post P w Fr β oc r.1 r.2.1 r.2.2.1 r.2.2.2 v w' Fr' β':=by
 obtain ⟨hlen,o,s1,h1,h2⟩:=h
 cases o with
 | exit i=>exact h2.elim
 | ret =>
   unfold coDFun at hD
   split at hD
   case h_2=>cases hD
   rename_i fn hfn
   split at hD
   case h_2=>cases hD
   rename_i a id ops b hbd
   split at hD
   case h_2=>cases hD
   rename_i d g first caps ty1 pos1 af1 d' dargs dats ty2 pos2 af2 hops
   split at hD
   case isFalse=>cases hD
   rename_i hcond
   obtain ⟨hname,hra,hrb,rfl,hfirst,rfl,hdn,hent⟩:=hcond
   obtain ⟨cs,hcs,hD⟩:=Option.bind_eq_some_iff.1 hD
   obtain ⟨⟨pc,lva⟩,hpc,hD⟩:=Option.bind_eq_some_iff.1 hD
   obtain ⟨⟨bc,lvb⟩,hbc,hD⟩:=Option.bind_eq_some_iff.1 hD
   obtain ⟨rs,hrs,rfl⟩:=Option.map_eq_some_iff.1 hD
   dsimp only at h1 h2 hlen
   refine enters_of (by unfold entersB;rw [hfn];simp only [hname,hbd,Option.isSome_some,Bool.and_self]) (fun e=>by rw [e,hyn] at hfn;cases hfn) ?_
   have hS:Good Γ ⟨w.heap.size,MayOf w β oc,w,Fr,fn.ntmps,w,Fr,β,[]⟩:=⟨hp.g,fun g hg=>⟨Γ.lt w hp.g g hg,hp.dis g hg⟩⟩
   have R0:=start_ok (nt:=fn.ntmps) hp hlen
   refine callsIn_wide.1 (callsIn_of_wp_marks (n:=0) hfn hbd trivial ?_)
   refine wpIn_seq (code_sound (r:=none) hm hcf hS (f:=f) ⟨fn,hfn,rfl⟩ (fun l e=>by cases e) a 0 lv1 pc lva hpc (by rw [hra];intro j q hj;cases hj) _ s1 .ret _ w _ h1 rfl ⟨Fr,β,R0,Le.refl _ _ _⟩ fun a1 w1 hr1=>?_)
   exact leave_marks rfl _ a1 w1 rfl hr1 fun a2 w2 hr2 _=>fin_ok hrs hp.rel.bx.1 h2 a2 w2 hr2
 | normal =>
   obtain ⟨o,st2,h3,hno,hf⟩:=h2
   refine dfun_walk hm hyn hcf hD hlen hp h1 fun fn b lv' hent hnt hfn hbc hrb hrs a1 w1 Fr1 β1 cvs R1 hl1 hcr hal=>?_
   have hS:Good Γ ⟨w.heap.size,MayOf w β oc,w,Fr,D.nt,w,Fr,β,[]⟩:=⟨hp.g,fun g hg=>⟨Γ.lt w hp.g g hg,hp.dis g hg⟩⟩
   have hS2:Good Γ ⟨w1.heap.size,MayNow (D.mid s1) a1 w1 β1,w1,Fr1,D.nt,w1,Fr1,β1,{ target:=.fn (.func D.g) cvs.toArray,args:=#[] }::a1.defers⟩:=⟨hS.at R1,good_now hS R1⟩
   have Rb:=R1.rebase ({ target:=.fn (.func D.g) cvs.toArray,args:=#[] }::a1.defers)
   refine code_sound (r:=none) hm hcf hS2 (f:=f) hfn (fun l e=>by cases e) b 0 lv2 D.body lv' hbc (by rw [hrb];intro j q hj;cases hj) _ st2 o _ w1 _ h3 hal ⟨Fr1,β1,Rb,Le.refl _ _ _⟩ fun a2 w2 hr2=>?_
   have key:LeavesInM Fence.wide 0 P fn a2.tmps (fun e w'=>∃ v Fr' β',e=.returned v∧Post P w Fr β oc r.1 r.2.1 r.2.2.1 r.2.2.2 v w' Fr' β') a2.defers .returning w2:=by
    have hr0:=hr2
    obtain ⟨Fr2,β2,R2,hl2⟩:=hr0
    obtain ⟨Ds,d1,d2,d3⟩:=R2.df
    rw [d2]
    refine leave_down (by simp) Ds a2 w2 d2 hr2 fun a3 w3 hr3 ht _=>?_
    obtain ⟨Fr3,β3,R3,hl3⟩:=hr3
    dsimp only at R3 hl3
    unfold LeavesInM
    refine ⟨by simp,.inr ⟨(fun h=>by cases h),.func D.g,cvs.toArray,D.g,cvs.toArray,rfl,?_,fun _ _=>trivial,?_⟩⟩
    ·rw [← enter_run (P:=P) (w:=w3) hent (args:=cvs.toArray)]
     simp only [invoke]
     congr 2
     apply Array.ext';simp
    ·refine (hnop cvs w3 (by have:=hcr.length;simpa using this)).mono ?_
     rintro e u' w' ⟨⟨v,rfl⟩,rfl,rfl⟩
     rw [← ht]
     exact dfun_end (fn:=fn) hp hrs (by rw [hnt];exact R1) hl1 (by rw [hnt];exact R3) hl3 hf
   cases o with
   | exit i=>exact absurd rfl (hno i)
   | normal=>exact key
   | ret=>exact key
end
end Nun
namespace Nun
open Go Go.RowKit
section
variable {cf:Callee} {pf:Throws} {kl:List Nat} {n k:Nat} {st st':St} {f:FuncId} {q:ThrS} {sl:List (Nat × PV)} {ow:List Loc} {al:List (Nat × Loc)} {bx:Boxes}
variable {code:FuncId→Option CFun} {n0:Nat} {plib:Throws}
end
end Nun
end
