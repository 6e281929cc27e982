/- EmailHolds answers true for every mail, where the table of base64 is laid az start-up lays it: texts of this proof, merged. -/
import Derived.Test.YtmpiobfdchlikaaGreatDoorPd
import Derived.Test.YtmpiobfdchlikaaGreatDoorRows
import Derived.Shelf.Strings.BuilderK
import Derived.Lib.FrozenHead2
import Derived.Lib.OthersKept
import Derived.Lib.Builder
import Derived.Laws.Externs
set_option linter.unusedVariables false
set_option linter.unusedSimpArgs false
section
namespace Nun
open Go Go.RowKit
open Go.Proofs.YtmpiobfdchlikaaGreatDoor
variable {lib:Callee}
def goU:Str→Nat→Nat→Nat × Bool
 | _,r,0=>(r,true)
 | c::l,r,m+1=>if 128≤c.toNat∧c.toNat<192 then goU l (r * 64+(c.toNat - 128)) m else (0,false)
 | [],_,_+1=>(0,false)
theorem goU_short:∀ (l:Str) (r m:Nat),l.length<m→goU l r m=(0,false)
 | l,r,0,h=>by omega
 | [],r,m+1,h=>rfl
 | c::l,r,m+1,h=>by
   simp only [goU]
   split
   ·exact goU_short l _ m (by simp at h;omega)
   ·rfl
theorem goU_false:∀ (l:Str) (r m:Nat),(goU l r m).2=false→goU l r m=(0,false)
 | l,r,0,h=>by simp [goU] at h
 | [],r,m+1,h=>rfl
 | c::l,r,m+1,h=>by
   simp only [goU] at h ⊢
   split at h
   ·rename_i hc;rw [if_pos hc];exact goU_false l _ m h
   ·rename_i hc;rw [if_neg hc]
theorem cont_and (c:UInt8):(c.toNat &&& 192=128) ↔ (128≤c.toNat∧c.toNat<192):=by
 have:=byte_all (p:=fun n=>decide ((n &&& 192=128) ↔ (128≤n∧n<192))) (by decide +kernel) c
 exact of_decide_eq_true this
theorem low_and (c:UInt8) (h:128≤c.toNat∧c.toNat<192):c.toNat &&& 63=c.toNat - 128:=by
 have:=byte_all (p:=fun n=>decide (128≤n∧n<192→n &&& 63=n - 128)) (by decide +kernel) c
 exact of_decide_eq_true this h
def headT (l:Str) (many r i:Nat):St:=⟨[(0,.flat (.string (S l))),(1,.flat (.int .i32 r)),(13,.flat (.int .i64 many)),(14,.flat (.int .i64 i))],[],[],[]⟩
def resT (q:Nat × Bool):Out × St:=if q.2 then (.exit 0,⟨[(1,.flat (.int .i32 q.1))],[],[],[]⟩) else (.ret,⟨[(6,.flat (.int .i32 0)),(7,.flat (.bool false))],[],[],[]⟩)
theorem tail_loop (l:Str) (many:Nat) (hm:many≤3) (hl:many≤l.length) (r:Nat) (hr:r<32):evLoop (evC (evW code lib) big b_utf_tail_0) [0,1,13,14] 0 big (headT l many r 0)=some (resT (goU l r many)):=by
 have:=loop_by (body:=evC (evW code lib) big b_utf_tail_0) (live:=[0,1,13,14]) (nb:=0) (fun a:Nat × Nat=>headT l many a.1 a.2) (fun a=>a.2≤many∧a.1<32 * 64 ^ a.2) (fun a=>many - a.2) (fun a=>resT (goU (l.drop a.2) a.1 (many - a.2))) (fun ⟨r,i⟩ ⟨hi,hr⟩=>?_) (n:=big) (a:=(r,0)) ⟨by omega,by simpa using hr⟩ (by unfold big;dsimp only;omega)
 ·simpa using this
 dsimp only at hi hr ⊢
 have hr2:r<8388608:=by
  have:(64:Nat) ^ i≤64 ^ 3:=Nat.pow_le_pow_right (by omega) (by omega)
  have h9:(64:Nat) ^ 3=262144:=by decide
  omega
 by_cases hlt:i<many
 ·obtain ⟨c,t,ht⟩:∃ c t,l.drop i=c::t:=⟨l[i],l.drop (i+1),List.drop_eq_getElem_cons (by omega)⟩
  have e1:=nat_get ht
  have hc:=c.toNat_lt
  have e2:=drop_of_drop ht
  have e3:=cont_and c
  have e4:bitand .u8 (c.toNat:Int) 192=_:=u8_and c.toNat 192 (by omega) (by omega)
  have e5:bitand .u8 (c.toNat:Int) 63=_:=u8_and c.toNat 63 (by omega) (by omega)
  have hm1:many - i=(many - (i+1))+1:=by omega
  by_cases hcc:128≤c.toNat∧c.toNat<192
  ·right
   have e6:=low_and c hcc
   have e7:c.toNat &&& 192=128:=e3.2 hcc
   rw [e7] at e4;rw [e6] at e5
   have e9:((128:Nat):Int)=128:=rfl
   have e8:=i32_or (r * 64) (c.toNat - 128) (by omega) (by omega)
   rw [or_low _ _ (by omega)] at e8
   refine ⟨⟨[(0,.flat (.string (S l))),(1,.flat (.int .i32 (r * 64+(c.toNat - 128):Nat))),(13,.flat (.int .i64 many)),(14,.flat (.int .i64 (i+1:Nat)))],[],[],[]⟩,(r * 64+(c.toNat - 128),i+1),?_,rfl,⟨by omega,?_⟩,by dsimp only;omega,?_⟩
   ·have h1:((i:Int)<many):=by omega
    have h2:(0:Int)≤i:=by omega
    have h3:IntKind.i32.wrap ((r:Int) * 2 ^ min 6 32)=((r * 64:Nat):Int):=by rw [wrap32 (by simp;omega)];simp
    have h4:IntKind.i64.wrap ((i:Int)+1)=((i+1:Nat):Int):=wrap64 (by omega)
    have h5:IntKind.i32.wrap ((c.toNat - 128:Nat):Int)=((c.toNat - 128:Nat):Int):=wrap32 (by omega)
    simp only [b_utf_tail_0,headT,go_sem,simprocAttr,h1,h2,S_get,Int.toNat_natCast,e1,IntKind.bits,e4,e5,h3,h4,h5,e8,e9]
   ·rw [Nat.pow_succ];omega
   ·dsimp only;rw [ht,hm1,e2];simp only [goU];rw [if_pos hcc]
  ·left
   have h1:((i:Int)<many):=by omega
   have h2:(0:Int)≤i:=by omega
   have e7:¬ ((c.toNat &&& 192:Nat):Int)=128:=fun e=>hcc (e3.1 (by omega))
   refine ⟨.ret,⟨[(6,.flat (.int .i32 0)),(7,.flat (.bool false))],[],[],[]⟩,?_,by simp,?_⟩
   ·simp only [b_utf_tail_0,headT,go_sem,simprocAttr,h1,h2,S_get,Int.toNat_natCast,e1,IntKind.bits,e4,e7]
   ·rw [ht,hm1];simp only [goU];rw [if_neg hcc];rfl
 ·left
  have hil:i=many:=by omega
  subst hil
  refine ⟨.exit 0,⟨[(1,.flat (.int .i32 r))],[],[],[]⟩,?_,by simp,by rw [Nat.sub_self];simp [goU,resT]⟩
  have h1:¬ ((i:Int)<i):=by omega
  simp only [b_utf_tail_0,headT,go_sem,simprocAttr,h1]
theorem tail_ev (l:Str) (many:Nat) (hm:many≤3) (r:Nat) (hr:r<32):evW code lib 158 [.flat (.string (S l)),.flat (.int .i32 r),.flat (.int .i64 many)] [] []=some ([.flat (.int .i32 (goU l r many).1),.flat (.bool (goU l r many).2)],false,[],[]):=by
 refine evW_eq code_utf_tail (Nat.le_of_ble_eq_true rfl) ?_
 by_cases hl:l.length<many
 ·have h1:((l.length:Int)<many):=by omega
  rw [goU_short l r many hl]
  simp only [go_sem,simprocAttr,S_size,h1]
 ·have h1:¬ ((l.length:Int)<many):=by omega
  have h2:=tail_loop (lib:=lib) l many hm (by omega) r hr
  simp only [headT,n0] at h2
  cases hg:(goU l r many).2 with
  | true =>
    simp only [resT,hg,if_true] at h2
    simp only [go_sem,simprocAttr,S_size,h1,mk_S,h2]
  | false =>
    have h3:=goU_false l r many hg
    simp only [resT,hg,Bool.false_eq_true,if_false] at h2
    simp only [go_sem,simprocAttr,S_size,h1,mk_S,h2,h3,n0]
def isN (n:Nat):Bool:=decide (n≤1114111) && (decide (n<55296) || decide (57343<n))
theorem is_ev (n:Nat):evW code lib 104 [.flat (.int .i32 n)] [] []=some ([.flat (.bool (isN n))],false,[],[]):=by
 refine evW_eq code_utf_is (Nat.le_of_ble_eq_true rfl) ?_
 have h0:(0:Int)≤n:=by omega
 by_cases h2:n≤1114111<;>by_cases h3:n<55296
 all_goals
  have h2':((n:Int)≤1114111)=(n≤1114111):=by apply propext;omega
  have h3':((n:Int)<55296)=(n<55296):=by apply propext;omega
  have h4':((57343:Int)<n)=(57343<n):=by apply propext;omega
  simp only [go_sem,simprocAttr,isN,h0,h2',h3',h4',h2,h3,Bool.true_or,Bool.false_or]
def finU (r least many:Nat) (l:Str):Nat × Nat:=if (goU l r many).2=true∧least≤(goU l r many).1∧isN (goU l r many).1=true then ((goU l r many).1,many+1) else (65533,1)
def decU:Str→Nat × Nat
 | []=>(0,0)
 | c::l =>
   if c.toNat<128 then (c.toNat,1)
   else if 192≤c.toNat∧c.toNat<224 then finU (c.toNat - 192) 128 1 l
   else if 224≤c.toNat∧c.toNat<240 then finU (c.toNat - 224) 2048 2 l
   else if 240≤c.toNat∧c.toNat<248 then finU (c.toNat - 240) 65536 3 l
   else (65533,1)
theorem lead2 (c:UInt8) (h:192≤c.toNat∧c.toNat<224):c.toNat &&& 31=c.toNat - 192:=by
 have:=byte_all (p:=fun n=>decide (192≤n∧n<224→n &&& 31=n - 192)) (by decide +kernel) c
 exact of_decide_eq_true this h
theorem lead3 (c:UInt8) (h:224≤c.toNat∧c.toNat<240):c.toNat &&& 15=c.toNat - 224:=by
 have:=byte_all (p:=fun n=>decide (224≤n∧n<240→n &&& 15=n - 224)) (by decide +kernel) c
 exact of_decide_eq_true this h
theorem lead4 (c:UInt8) (h:240≤c.toNat∧c.toNat<248):c.toNat &&& 7=c.toNat - 240:=by
 have:=byte_all (p:=fun n=>decide (240≤n∧n<248→n &&& 7=n - 240)) (by decide +kernel) c
 exact of_decide_eq_true this h
def Sm (l:Str):Prop:=l.length≤1000000000000
theorem goU_num:∀ (l:Str) (r m:Nat),r<32→m≤3→(goU l r m).1<8388608:=by
 have key:∀ (m:Nat) (l:Str) (r k:Nat),r<32 * 64 ^ k→m+k≤3→(goU l r m).1<8388608:=by
  intro m
  induction m with
  | zero =>
    intro l r k hr hk
    have:(64:Nat) ^ k≤64 ^ 3:=Nat.pow_le_pow_right (by omega) (by omega)
    have h9:(64:Nat) ^ 3=262144:=by decide
    simp only [goU];omega
  | succ m ih =>
    intro l r k hr hk
    cases l with
    | nil=>simp [goU]
    | cons c l =>
      simp only [goU]
      split
      ·exact ih l _ (k+1) (by rw [Nat.pow_succ];omega) (by omega)
      ·simp
 exact fun l r m hr hm=>key m l r 0 (by simpa using hr) (by omega)
theorem next_ev (l:Str) (hs:Sm l) (k:Nat) (hk:k≤l.length):evW code lib 103 [.flat (.string (S l)),.flat (.int .i64 k)] [] []=some ([.flat (.int .i32 (decU (l.drop k)).1),.flat (.int .i64 (decU (l.drop k)).2)],false,[],[]):=by
 unfold Sm at hs
 refine evW_eq code_utf_Next (Nat.le_of_ble_eq_true rfl) ?_
 have h0:¬ ((k:Int)<0):=by omega
 by_cases hlt:k<l.length
 ·obtain ⟨c,t,ht⟩:∃ c t,l.drop k=c::t:=⟨l[k],l.drop (k+1),List.drop_eq_getElem_cons hlt⟩
  have e1:=nat_get ht
  have hc:=c.toNat_lt
  have e2:=drop_of_drop ht
  have h1:¬ ((l.length:Int)≤k):=by omega
  have h2:(0:Int)≤k:=by omega
  have c1:((c.toNat:Int)<128)=(c.toNat<128):=by apply propext;omega
  have c2:((192:Int)≤c.toNat)=(192≤c.toNat):=by apply propext;omega
  have c3:((c.toNat:Int)<224)=(c.toNat<224):=by apply propext;omega
  have c4:((224:Int)≤c.toNat)=(224≤c.toNat):=by apply propext;omega
  have c5:((c.toNat:Int)<240)=(c.toNat<240):=by apply propext;omega
  have c6:((240:Int)≤c.toNat)=(240≤c.toNat):=by apply propext;omega
  have c7:((c.toNat:Int)<248)=(c.toNat<248):=by apply propext;omega
  rw [ht]
  by_cases a1:c.toNat<128
  ·have w1:IntKind.i32.wrap (c.toNat:Int)=c.toNat:=wrap32 (by omega)
   simp only [go_sem,simprocAttr,S_size,S_get,h0,h1,h2,Int.toNat_natCast,e1,c1,a1,w1,decU,n1]
  ·have w2:IntKind.i64.wrap ((k:Int)+1)=((k+1:Nat):Int):=wrap64 (by omega)
   have b1:(0:Int)≤((k+1:Nat):Int)∧((k+1:Nat):Int)≤l.length:=by omega
   have x1:(l.take l.length).drop (k+1)=t:=by rw [List.take_length,e2]
   have fin:∀ (r least many:Nat),r<32→many≤3 →
    (finU r least many t=((goU t r many).1,many+1)∧(goU t r many).2=true∧least≤(goU t r many).1∧isN (goU t r many).1=true)∨(finU r least many t=(65533,1)∧((goU t r many).2=false∨(goU t r many).2=true∧(¬ least≤(goU t r many).1∨least≤(goU t r many).1∧isN (goU t r many).1=false))):=fun r least many _ _=>by
    unfold finU
    by_cases g1:(goU t r many).2=true<;>by_cases g2:least≤(goU t r many).1<;>by_cases g3:isN (goU t r many).1=true<;>simp [g1,g2,g3]<;>simpa using g1
   have run:∀ (r least many:Nat),r<32→many≤3→evW code lib 158 [.flat (.string (S t)),.flat (.int .i32 r),.flat (.int .i64 many)] [] []=_:=fun r _ many hr hm=>tail_ev (lib:=lib) t many hm r hr
   by_cases a2:192≤c.toNat∧c.toNat<224
   ·have l1:bitand .u8 (c.toNat:Int) 31=((c.toNat - 192:Nat):Int):=by rw [← lead2 c a2];exact u8_and c.toNat 31 (by omega) (by omega)
    have w3:IntKind.i32.wrap ((c.toNat - 192:Nat):Int)=((c.toNat - 192:Nat):Int):=wrap32 (by omega)
    have t1:=run (c.toNat - 192) 128 1 (by omega) (by omega)
    have i1:=is_ev (lib:=lib) (goU t (c.toNat - 192) 1).1
    rw [n1] at t1
    have hd:decU (c::t)=finU (c.toNat - 192) 128 1 t:=by
     simp only [decU];rw [if_neg a1,if_pos a2]
    have lt:(((goU t (c.toNat - 192) 1).1:Int)<128)=¬ (128≤(goU t (c.toNat - 192) 1).1):=by apply propext;omega
    have q2:(192≤c.toNat)=True:=by simp;omega
    have r2:(c.toNat<224)=True:=by simp;omega
    have q3:(224≤c.toNat)=False:=by simp;omega
    have r3:(c.toNat<240)=True:=by simp;omega
    have q4:(240≤c.toNat)=False:=by simp;omega
    have r4:(c.toNat<248)=True:=by simp;omega
    rw [hd]
    rcases fin (c.toNat - 192) 128 1 (by omega) (by omega) with ⟨f1,f2,f3,f4⟩ | ⟨f1,f2 | ⟨f2,f3 | ⟨f3,f4⟩⟩⟩
    ·rw [f1];simp only [go_sem,simprocAttr,S_size,S_get,S_ext,h0,h1,h2,Int.toNat_natCast,e1,c1,c2,c3,c4,c5,c6,c7,a1,q2,r2,q3,r3,q4,r4,l1,w2,b1.1,b1.2,x1,w3,t1,f2,lt,f3,i1,f4,n2,n3,n4,w64_2,w64_3,w64_4]
    ·rw [f1];simp only [go_sem,simprocAttr,S_size,S_get,S_ext,h0,h1,h2,Int.toNat_natCast,e1,c1,c2,c3,c4,c5,c6,c7,a1,q2,r2,q3,r3,q4,r4,l1,w2,b1.1,b1.2,x1,w3,t1,f2,n1,n65533]
    ·rw [f1];simp only [go_sem,simprocAttr,S_size,S_get,S_ext,h0,h1,h2,Int.toNat_natCast,e1,c1,c2,c3,c4,c5,c6,c7,a1,q2,r2,q3,r3,q4,r4,l1,w2,b1.1,b1.2,x1,w3,t1,f2,lt,f3,n1,n65533]
    ·rw [f1];simp only [go_sem,simprocAttr,S_size,S_get,S_ext,h0,h1,h2,Int.toNat_natCast,e1,c1,c2,c3,c4,c5,c6,c7,a1,q2,r2,q3,r3,q4,r4,l1,w2,b1.1,b1.2,x1,w3,t1,f2,lt,f3,i1,f4,n1,n65533]
   by_cases a3:224≤c.toNat∧c.toNat<240
   ·have l1:bitand .u8 (c.toNat:Int) 15=((c.toNat - 224:Nat):Int):=by rw [← lead3 c a3];exact u8_and c.toNat 15 (by omega) (by omega)
    have w3:IntKind.i32.wrap ((c.toNat - 224:Nat):Int)=((c.toNat - 224:Nat):Int):=wrap32 (by omega)
    have t1:=run (c.toNat - 224) 2048 2 (by omega) (by omega)
    have i1:=is_ev (lib:=lib) (goU t (c.toNat - 224) 2).1
    rw [n2] at t1
    have hd:decU (c::t)=finU (c.toNat - 224) 2048 2 t:=by
     simp only [decU];rw [if_neg a1,if_neg (by omega),if_pos a3]
    have lt:(((goU t (c.toNat - 224) 2).1:Int)<2048)=¬ (2048≤(goU t (c.toNat - 224) 2).1):=by apply propext;omega
    have q2:(192≤c.toNat)=True:=by simp;omega
    have r2:(c.toNat<224)=False:=by simp;omega
    have q3:(224≤c.toNat)=True:=by simp;omega
    have r3:(c.toNat<240)=True:=by simp;omega
    have q4:(240≤c.toNat)=False:=by simp;omega
    have r4:(c.toNat<248)=True:=by simp;omega
    rw [hd]
    rcases fin (c.toNat - 224) 2048 2 (by omega) (by omega) with ⟨f1,f2,f3,f4⟩ | ⟨f1,f2 | ⟨f2,f3 | ⟨f3,f4⟩⟩⟩
    ·rw [f1];simp only [go_sem,simprocAttr,S_size,S_get,S_ext,h0,h1,h2,Int.toNat_natCast,e1,c1,c2,c3,c4,c5,c6,c7,a1,q2,r2,q3,r3,q4,r4,l1,w2,b1.1,b1.2,x1,w3,t1,f2,lt,f3,i1,f4,n2,n3,n4,w64_2,w64_3,w64_4]
    ·rw [f1];simp only [go_sem,simprocAttr,S_size,S_get,S_ext,h0,h1,h2,Int.toNat_natCast,e1,c1,c2,c3,c4,c5,c6,c7,a1,q2,r2,q3,r3,q4,r4,l1,w2,b1.1,b1.2,x1,w3,t1,f2,n1,n65533]
    ·rw [f1];simp only [go_sem,simprocAttr,S_size,S_get,S_ext,h0,h1,h2,Int.toNat_natCast,e1,c1,c2,c3,c4,c5,c6,c7,a1,q2,r2,q3,r3,q4,r4,l1,w2,b1.1,b1.2,x1,w3,t1,f2,lt,f3,n1,n65533]
    ·rw [f1];simp only [go_sem,simprocAttr,S_size,S_get,S_ext,h0,h1,h2,Int.toNat_natCast,e1,c1,c2,c3,c4,c5,c6,c7,a1,q2,r2,q3,r3,q4,r4,l1,w2,b1.1,b1.2,x1,w3,t1,f2,lt,f3,i1,f4,n1,n65533]
   by_cases a4:240≤c.toNat∧c.toNat<248
   ·have l1:bitand .u8 (c.toNat:Int) 7=((c.toNat - 240:Nat):Int):=by rw [← lead4 c a4];exact u8_and c.toNat 7 (by omega) (by omega)
    have w3:IntKind.i32.wrap ((c.toNat - 240:Nat):Int)=((c.toNat - 240:Nat):Int):=wrap32 (by omega)
    have t1:=run (c.toNat - 240) 65536 3 (by omega) (by omega)
    have i1:=is_ev (lib:=lib) (goU t (c.toNat - 240) 3).1
    rw [n3] at t1
    have hd:decU (c::t)=finU (c.toNat - 240) 65536 3 t:=by
     simp only [decU];rw [if_neg a1,if_neg (by omega),if_neg (by omega),if_pos a4]
    have lt:(((goU t (c.toNat - 240) 3).1:Int)<65536)=¬ (65536≤(goU t (c.toNat - 240) 3).1):=by apply propext;omega
    have q2:(192≤c.toNat)=True:=by simp;omega
    have r2:(c.toNat<224)=False:=by simp;omega
    have q3:(224≤c.toNat)=True:=by simp;omega
    have r3:(c.toNat<240)=False:=by simp;omega
    have q4:(240≤c.toNat)=True:=by simp;omega
    have r4:(c.toNat<248)=True:=by simp;omega
    rw [hd]
    rcases fin (c.toNat - 240) 65536 3 (by omega) (by omega) with ⟨f1,f2,f3,f4⟩ | ⟨f1,f2 | ⟨f2,f3 | ⟨f3,f4⟩⟩⟩
    ·rw [f1];simp only [go_sem,simprocAttr,S_size,S_get,S_ext,h0,h1,h2,Int.toNat_natCast,e1,c1,c2,c3,c4,c5,c6,c7,a1,q2,r2,q3,r3,q4,r4,l1,w2,b1.1,b1.2,x1,w3,t1,f2,lt,f3,i1,f4,n2,n3,n4,w64_2,w64_3,w64_4]
    ·rw [f1];simp only [go_sem,simprocAttr,S_size,S_get,S_ext,h0,h1,h2,Int.toNat_natCast,e1,c1,c2,c3,c4,c5,c6,c7,a1,q2,r2,q3,r3,q4,r4,l1,w2,b1.1,b1.2,x1,w3,t1,f2,n1,n65533]
    ·rw [f1];simp only [go_sem,simprocAttr,S_size,S_get,S_ext,h0,h1,h2,Int.toNat_natCast,e1,c1,c2,c3,c4,c5,c6,c7,a1,q2,r2,q3,r3,q4,r4,l1,w2,b1.1,b1.2,x1,w3,t1,f2,lt,f3,n1,n65533]
    ·rw [f1];simp only [go_sem,simprocAttr,S_size,S_get,S_ext,h0,h1,h2,Int.toNat_natCast,e1,c1,c2,c3,c4,c5,c6,c7,a1,q2,r2,q3,r3,q4,r4,l1,w2,b1.1,b1.2,x1,w3,t1,f2,lt,f3,i1,f4,n1,n65533]
   have hd:decU (c::t)=(65533,1):=by
    simp only [decU];rw [if_neg a1,if_neg a2,if_neg a3,if_neg a4]
   rw [hd]
   have q4:(240≤c.toNat∧c.toNat<248)=False:=by simp;omega
   by_cases z1:192≤c.toNat
   ·have r2:¬ c.toNat<224:=by omega
    have q3:224≤c.toNat:=by omega
    have r3:¬ c.toNat<240:=by omega
    have q4:240≤c.toNat:=by omega
    have r4:¬ c.toNat<248:=by omega
    simp only [go_sem,simprocAttr,S_size,S_get,h0,h1,h2,Int.toNat_natCast,e1,c1,c2,c3,c4,c5,c6,c7,a1,z1,r2,q3,r3,q4,r4,n1,n65533]
   ·have q3:¬ 224≤c.toNat:=by omega
    have q4:¬ 240≤c.toNat:=by omega
    simp only [go_sem,simprocAttr,S_size,S_get,h0,h1,h2,Int.toNat_natCast,e1,c1,c2,c4,c6,a1,z1,q3,q4,n1,n65533]
 ·have hkl:k=l.length:=by omega
  subst hkl
  have h1:((l.length:Int)≤l.length):=by omega
  simp only [go_sem,simprocAttr,S_size,h0,h1,List.drop_length,decU,n0]
def bytesN (n:Nat):List Nat :=
 if n<128 then [n]
 else if n<2048 then [192+n / 64,128+n % 64]
 else if n<65536 then [224+n / 4096,128+n / 64 % 64,128+n % 64]
 else [240+n / 262144,128+n / 4096 % 64,128+n / 64 % 64,128+n % 64]
def bytesU (n:Nat):Str:=(bytesN (if isN n then n else 65533)).map UInt8.ofNat
theorem or128 (x:Nat) (h:x<64):128 ||| x=128+x:=by
 have:=byte_all (p:=fun n=>decide (n<64→128 ||| n=128+n)) (by decide +kernel) (UInt8.ofNat x)
 have h2:(UInt8.ofNat x).toNat=x:=by simp;omega
 rw [h2] at this
 exact of_decide_eq_true this h
theorem or192 (x:Nat) (h:x<32):192 ||| x=192+x:=by
 have:=byte_all (p:=fun n=>decide (n<32→192 ||| n=192+n)) (by decide +kernel) (UInt8.ofNat x)
 have h2:(UInt8.ofNat x).toNat=x:=by simp;omega
 rw [h2] at this
 exact of_decide_eq_true this h
theorem or224 (x:Nat) (h:x<16):224 ||| x=224+x:=by
 have:=byte_all (p:=fun n=>decide (n<16→224 ||| n=224+n)) (by decide +kernel) (UInt8.ofNat x)
 have h2:(UInt8.ofNat x).toNat=x:=by simp;omega
 rw [h2] at this
 exact of_decide_eq_true this h
theorem or240 (x:Nat) (h:x<8):240 ||| x=240+x:=by
 have:=byte_all (p:=fun n=>decide (n<8→240 ||| n=240+n)) (by decide +kernel) (UInt8.ofNat x)
 have h2:(UInt8.ofNat x).toNat=x:=by simp;omega
 rw [h2] at this
 exact of_decide_eq_true this h
theorem and63 (n:Nat) (h:n<2147483648):bitand .i32 (n:Int) 63=((n % 64:Nat):Int):=by
 have h1:=i32_and n 63 h (by omega)
 have h2:=Nat.and_two_pow_sub_one_eq_mod n 6
 rw [show (2:Nat) ^ 6 - 1=63 from rfl,show (2:Nat) ^ 6=64 from rfl] at h2
 rw [h2] at h1
 exact h1
theorem shr6 (n:Nat):(n:Int).fdiv (2 ^ (min 6 32))=((n / 64:Nat):Int):=by
 rw [show ((2:Int) ^ (min 6 32))=64 from rfl,Int.fdiv_eq_ediv_of_nonneg _ (by omega)]
 rfl
theorem or8 (x:Nat) (h:x<64):bitor .u8 128 (x:Int)=((128+x:Nat):Int):=by rw [← or128 x h];exact u8_or 128 x (by omega) (by omega)
theorem bytesOf_cons {n:Nat} {r:List PV} (h:n<256):bytesOf (.flat (.int .u8 (n:Int))::r)=(bytesOf r).map (UInt8.ofNat n::·):=by
 rw [bytesOf,if_pos (by omega)];rfl
theorem bytesOf_nil:bytesOf []=some []:=rfl
theorem sh1:IntKind.u8.wrap (255 * 2 ^ min 6 8)=192:=by decide
theorem sh2:IntKind.u8.wrap (255 * 2 ^ min 5 8)=224:=by decide
theorem sh3:IntKind.u8.wrap (255 * 2 ^ min 4 8)=240:=by decide
theorem big_on:big=18446744073709551615+1:=by decide
theorem bytes_ev (n:Nat) (hn:n<2147483648):evW code lib 53 [.flat (.int .i32 n)] [] []=some ([.flat (.string (S (bytesU n)))],false,[],[]):=by
 refine evW_eq code_utf_Bytes (Nat.le_of_ble_eq_true rfl) ?_
 have i1:=is_ev (lib:=lib) n
 cases hi:isN n with
 | true =>
   rw [hi] at i1
   have hle:n≤1114111:=by simp only [isN,Bool.and_eq_true,decide_eq_true_eq] at hi;exact hi.1
   have c1:((65536:Int)≤n)=(65536≤n):=by apply propext;omega
   have c2:((2048:Int)≤n)=(2048≤n):=by apply propext;omega
   have c3:((128:Int)≤n)=(128≤n):=by apply propext;omega
   have a0:=and63 n hn
   have a1:=and63 (n / 64) (by omega)
   have a2:=and63 (n / 64 / 64) (by omega)
   have s0:=shr6 n
   have s1:=shr6 (n / 64)
   have s2:=shr6 (n / 64 / 64)
   have o0:=or8 (n % 64) (by omega)
   have o1:=or8 (n / 64 % 64) (by omega)
   have o2:=or8 (n / 64 / 64 % 64) (by omega)
   have v0:IntKind.u8.wrap ((n % 64:Nat):Int)=((n % 64:Nat):Int):=wrap8 (by omega)
   have v1:IntKind.u8.wrap ((n / 64 % 64:Nat):Int)=((n / 64 % 64:Nat):Int):=wrap8 (by omega)
   have v2:IntKind.u8.wrap ((n / 64 / 64 % 64:Nat):Int)=((n / 64 / 64 % 64:Nat):Int):=wrap8 (by omega)
   simp only [bytesU,hi,if_true]
   by_cases h3:65536≤n
   ·have h2:2048≤n:=by omega
    have h1:128≤n:=by omega
    have l1:IntKind.u8.wrap ((n / 64 / 64 / 64:Nat):Int)=((n / 64 / 64 / 64:Nat):Int):=wrap8 (by omega)
    have l2:bitor .u8 240 ((n / 64 / 64 / 64:Nat):Int)=((240+n / 64 / 64 / 64:Nat):Int):=by rw [← or240 _ (by omega)];exact u8_or 240 _ (by omega) (by omega)
    have hb:bytesN n=[240+n / 64 / 64 / 64,128+n / 64 / 64 % 64,128+n / 64 % 64,128+n % 64]:=by
     unfold bytesN;rw [if_neg (by omega),if_neg (by omega),if_neg (by omega)];simp only [Nat.div_div_eq_div_mul]
    rw [hb]
    simp (disch:=omega) only [go_sem,simprocAttr,i1,c1,c2,c3,h3,h2,h1,w64_1,w64_2,w64_3,w64_4,w64_0,big_on,loop_on,on_utf_Bytes_0,kLoop_n,kLoop_e,a0,a1,a2,s0,s1,s2,o0,o1,o2,v0,v1,v2,l1,l2,sh1,sh2,sh3,IntKind.bits,bytesOf_cons,bytesOf_nil,mk_S,List.map_cons,List.map_nil]
   ·by_cases h2:2048≤n
    ·have h1:128≤n:=by omega
     have l1:IntKind.u8.wrap ((n / 64 / 64:Nat):Int)=((n / 64 / 64:Nat):Int):=wrap8 (by omega)
     have l2:bitor .u8 224 ((n / 64 / 64:Nat):Int)=((224+n / 64 / 64:Nat):Int):=by rw [← or224 _ (by omega)];exact u8_or 224 _ (by omega) (by omega)
     have hb:bytesN n=[224+n / 64 / 64,128+n / 64 % 64,128+n % 64]:=by
      unfold bytesN;rw [if_neg (by omega),if_neg (by omega),if_pos (by omega)];simp only [Nat.div_div_eq_div_mul]
     rw [hb]
     simp (disch:=omega) only [go_sem,simprocAttr,i1,c1,c2,c3,h3,h2,h1,w64_1,w64_2,w64_3,w64_4,w64_5,w64_0,big_on,loop_on,on_utf_Bytes_0,kLoop_n,kLoop_e,a0,a1,s0,s1,o0,o1,v0,v1,l1,l2,sh1,sh2,sh3,IntKind.bits,bytesOf_cons,bytesOf_nil,mk_S,List.map_cons,List.map_nil]
    ·by_cases h1:128≤n
     ·have l1:IntKind.u8.wrap ((n / 64:Nat):Int)=((n / 64:Nat):Int):=wrap8 (by omega)
      have l2:bitor .u8 192 ((n / 64:Nat):Int)=((192+n / 64:Nat):Int):=by rw [← or192 _ (by omega)];exact u8_or 192 _ (by omega) (by omega)
      have hb:bytesN n=[192+n / 64,128+n % 64]:=by
       unfold bytesN;rw [if_neg (by omega),if_pos (by omega)]
      rw [hb]
      simp (disch:=omega) only [go_sem,simprocAttr,i1,c1,c2,c3,h3,h2,h1,w64_1,w64_2,w64_3,w64_4,w64_5,w64_6,w64_0,big_on,loop_on,on_utf_Bytes_0,kLoop_n,kLoop_e,a0,s0,o0,v0,l1,l2,sh1,sh2,sh3,IntKind.bits,bytesOf_cons,bytesOf_nil,mk_S,List.map_cons,List.map_nil]
     ·have l1:IntKind.u8.wrap (n:Int)=(n:Int):=wrap8 (by omega)
      have hb:bytesN n=[n]:=by unfold bytesN;rw [if_pos (by omega)]
      rw [hb]
      simp (disch:=omega) only [go_sem,simprocAttr,i1,c1,c2,c3,h3,h2,h1,w64_0,l1,bytesOf_cons,bytesOf_nil,mk_S,List.map_cons,List.map_nil]
 | false =>
   rw [hi] at i1
   have hb:bytesU n=[239,191,189]:=by unfold bytesU;rw [hi];simp only [Bool.false_eq_true,if_false];decide
   rw [hb]
   have a0:=and63 65533 (by omega)
   have a1:=and63 (65533 / 64) (by omega)
   have s0:=shr6 65533
   have s1:=shr6 (65533 / 64)
   have o0:=or8 (65533 % 64) (by omega)
   have o1:=or8 (65533 / 64 % 64) (by omega)
   have v0:IntKind.u8.wrap 61=61:=by decide
   have v1:IntKind.u8.wrap 63=63:=by decide
   have v2:IntKind.u8.wrap 15=15:=by decide
   have l2:bitor .u8 224 15=239:=by decide
   simp only [Int.cast_ofNat_Int,Nat.reduceDiv,Nat.reduceMod,Nat.reduceAdd] at a0 a1 s0 s1 o0 o1
   have d1:bytesOf [.flat (.int .u8 239),.flat (.int .u8 191),.flat (.int .u8 189)]=some [239,191,189]:=by decide
   simp only [go_sem,simprocAttr,i1,w64_1,w64_2,w64_3,w64_4,w64_5,w64_0,big_on,loop_on,on_utf_Bytes_0,kLoop_n,kLoop_e,a0,a1,s0,s1,o0,o1,v0,v1,v2,l2,sh1,sh2,sh3,IntKind.bits,d1,mk_S]
def cl (m:List (Nat × Nat)):List Loc:=m.map fun q=>.cell q.1 q.2
theorem cl_cells:∀ m:List (Nat × Nat),cellsO (cl m)=cl m
 | []=>rfl
 | q::m=>by show cellsO (.cell q.1 q.2::cl m)=_;rw [cellsO_c,cl_cells m];rfl
theorem cl_slots:∀ m:List (Nat × Nat),slotsO (cl m)=[]
 | []=>rfl
 | q::m=>by show slotsO (.cell q.1 q.2::cl m)=_;rw [slotsO_c,cl_slots m]
theorem cl_owns {i:Nat}:∀ m:List (Nat × Nat),owns (cl m) (.slot i)=false
 | []=>rfl
 | q::m=>by show owns (.cell q.1 q.2::cl m) (.slot i)=_;rw [owns_cs,cl_owns m]
theorem cl_keep (m:List (Nat × Nat)):∀ l:List Nat,keepO (cl m) l=[]
 | []=>rfl
 | i::l=>by rw [keepO_cons,cl_owns,cl_keep m l];rfl
theorem cl_drop {d:Nat}:∀ m:List (Nat × Nat),dropSlot d (cl m)=cl m
 | []=>rfl
 | q::m=>by show dropSlot d (.cell q.1 q.2::cl m)=_;rw [dropSlot_c,cl_drop m];rfl
theorem cl_under {n:Nat}:∀ m:List (Nat × Nat),(∀ q∈m,q.1<n)→underO n (cl m)=cl m
 | [],_=>rfl
 | q::m,h=>by
   show underO n (.cell q.1 q.2::cl m)=_
   rw [underO_c,if_pos (h q (by simp)),cl_under m fun q hq=>h q (by simp [hq])];rfl
def foldS {α ι:Type} (step:α→ι→α × Bool):α→List ι→α × Bool
 | a,[]=>(a,true)
 | a,x::r=>if (step a x).2 then foldS step (step a x).1 r else ((step a x).1,false)
theorem decU_size (c:UInt8) (l:Str):1≤(decU (c::l)).2∧(decU (c::l)).2≤4:=by
 have hf:∀ r least many,many≤3→1≤(finU r least many l).2∧(finU r least many l).2≤4:=fun r least many h=>by
  unfold finU;split<;>simp;omega
 simp only [decU]
 split
 ·simp
 ·split
  ·exact hf _ _ _ (by omega)
  ·split
   ·exact hf _ _ _ (by omega)
   ·split
    ·exact hf _ _ _ (by omega)
    ·simp
def runesF:Nat→Str→List (Nat × Nat)
 | 0,_=>[]
 | _+1,[]=>[]
 | n+1,c::l=>decU (c::l)::runesF n ((c::l).drop (decU (c::l)).2)
def runesU (l:Str):List (Nat × Nat):=runesF l.length l
theorem runesF_eq:∀ (n:Nat) (l:Str),l.length≤n→runesF n l=runesU l:=by
 have key:∀ (n m:Nat) (l:Str),l.length≤n→l.length≤m→runesF n l=runesF m l:=by
  intro n
  induction n with
  | zero=>intro m l h1 h2;have:l=[]:=List.eq_nil_of_length_eq_zero (by omega);subst this;cases m<;>rfl
  | succ n ih =>
    intro m l h1 h2
    cases l with
    | nil=>cases m<;>rfl
    | cons c l =>
      cases m with
      | zero=>simp at h2
      | succ m =>
        have:=decU_size c l
        simp only [runesF]
        rw [ih m _ (by rw [List.length_drop];simp at h1 ⊢;omega) (by rw [List.length_drop];simp at h2 ⊢;omega)]
 exact fun n l h=>key n _ l h (Nat.le_refl _)
theorem runesU_nil:runesU []=[]:=rfl
theorem runesU_cons (c:UInt8) (l:Str):runesU (c::l)=decU (c::l)::runesU ((c::l).drop (decU (c::l)).2):=by
 have:=decU_size c l
 rw [runesU,List.length_cons,runesF,runesF_eq]
 rw [List.length_drop];simp;omega
theorem decU_fits:∀ (l:Str),(decU l).2≤l.length:=by
 have hg:∀ (l:Str) (r m:Nat),(goU l r m).2=true→m≤l.length:=fun l r m h=>by
  rcases Nat.lt_or_ge l.length m with h1 | h1
  ·rw [goU_short l r m h1] at h;cases h
  ·exact h1
 intro l
 cases l with
 | nil=>simp [decU]
 | cons c l =>
   have hf:∀ r least many,(finU r least many l).2≤(c::l).length:=fun r least many=>by
    unfold finU
    split
    ·rename_i h;have:=hg l r many h.1;simp;omega
    ·simp
   simp only [decU]
   split
   ·simp
   ·split
    ·exact hf _ _ _
    ·split
     ·exact hf _ _ _
     ·split
      ·exact hf _ _ _
      ·simp
theorem decU_num:∀ (l:Str),(decU l).1<8388608:=by
 intro l
 cases l with
 | nil=>simp [decU]
 | cons c l =>
   have hc:=c.toNat_lt
   have hf:∀ r least many,r<32→many≤3→(finU r least many l).1<8388608:=fun r least many h1 h2=>by
    unfold finU
    split
    ·exact goU_num l r many h1 h2
    ·simp
   simp only [decU]
   split
   ·simp;omega
   ·split
    ·exact hf _ _ _ (by omega) (by omega)
    ·split
     ·exact hf _ _ _ (by omega) (by omega)
     ·split
      ·exact hf _ _ _ (by omega) (by omega)
      ·simp
theorem trim_same {nb:Nat} {vs:List PV} {bx:Boxes} (h:bx.length=nb):trim nb vs bx=bx:=by unfold trim;rw [if_pos h]
theorem all_run {α:Type} (l:Str) (hs:Sm l) (BX:α→Boxes) (oc:α→List (Nat × Nat)) (step:α→Nat × Nat→α × Bool) (I:α→Nat→Prop) (b p nb:Nat) (hbox:∀ a k,I a k→(BX a)[p]? =some (9,[.flat (.string (S l))])) (hlen:∀ a,(BX a).length=nb) (hoc:∀ a,∀ q∈oc a,q.1<nb)
 (hI:∀ a k q,I a k→k<l.length→decU (l.drop k)=q→1≤q.2→k+q.2≤l.length→(step a q).2=true→I (step a q).1 (k+q.2))
 (hy:∀ a k q,I a k→k<l.length→decU (l.drop k)=q→k+q.2≤l.length→q.1<8388608→q.2≤4→evW code lib yldF [.yld b,.flat (.int .i32 (q.1:Nat)),.flat (.int .i64 (q.2:Nat))] (BX a) (cl (oc a))=some ([.flat (.bool (step a q).2)],false,BX (step a q).1,cl (oc (step a q).1))) (a:α) (ha:I a 0) :
 evW code lib 102 [.yld b,.ptr p 0] (BX a) (cl (oc a))=some ([],false,BX (foldS step a (runesU l)).1,cl (oc (foldS step a (runesU l)).1)):=by
 refine evW_eq code_utf_all_1 (Nat.le_of_ble_eq_true rfl) ?_
 have hloop:=loop_by (body:=evC (evW code lib) big b_utf_all_1_0) (live:=[0,1,3]) (nb:=nb) (fun q:α × Nat=>(⟨[(0,.yld b),(1,.ptr p 0),(3,.flat (.int .i64 (q.2:Nat)))],cl (oc q.1),[],BX q.1⟩:St)) (fun q=>I q.1 q.2∧q.2≤l.length) (fun q=>l.length - q.2)
  (fun q=>(if (foldS step q.1 (runesU (l.drop q.2))).2 then .exit 0 else .ret,⟨[],cl (oc (foldS step q.1 (runesU (l.drop q.2))).1),[],BX (foldS step q.1 (runesU (l.drop q.2))).1⟩)) (fun ⟨a,k⟩ ⟨ha,hk⟩=>?_) (n:=big) (a:=(a,0)) ⟨ha,Nat.zero_le _⟩ (by unfold Sm at hs;unfold big;dsimp only;omega)
 ·have h1:=hlen a
  have h2:=hlen (foldS step a (runesU l)).1
  have hi0:((0:Nat):Int)=0:=rfl
  simp only [List.drop_zero,hi0] at hloop
  by_cases hf:(foldS step a (runesU l)).2=true
  ·simp only [hf,if_true] at hloop
   simp only [go_sem,simprocAttr,cl_keep,cl_owns,cl_cells,cl_drop,trim_same h1,h1,cl_under _ (hoc _),hloop,h2,trim_same h2]
  ·simp only [hf,Bool.false_eq_true,if_false] at hloop
   simp only [go_sem,simprocAttr,cl_keep,cl_owns,cl_cells,cl_drop,trim_same h1,h1,cl_under _ (hoc _),hloop,h2,trim_same h2]
 ·unfold Sm at hs
  dsimp only at ha hk ⊢
  have hb:=hbox a k ha
  have h1:=hlen a
  have h0:(0:Int)≤k:=by omega
  have e1:=next_ev (lib:=lib) l hs k hk
  by_cases hlt:k<l.length
  ·obtain ⟨c,t,ht⟩:∃ c t,l.drop k=c::t:=⟨l[k],l.drop (k+1),List.drop_eq_getElem_cons hlt⟩
   have hc:((k:Int)<l.length):=by omega
   have hsz:=decU_size c t
   have hft:=decU_fits (l.drop k)
   rw [List.length_drop] at hft
   have hnum:(decU (l.drop k)).1<8388608:=decU_num _
   have hr:runesU (l.drop k)=decU (l.drop k)::runesU (l.drop (k+(decU (l.drop k)).2)):=by
    rw [← List.drop_drop,ht,runesU_cons]
   rw [← ht] at hsz
   have hyy:=hy a k (decU (l.drop k)) ha hlt rfl (by omega) hnum hsz.2
   obtain ⟨q,hq⟩:∃ q,decU (l.drop k)=q:=⟨_,rfl⟩
   rw [hq] at e1 hyy hr hft hsz
   rw [hr]
   have h2:=hlen (step a q).1
   have w1:IntKind.i64.wrap ((k:Int)+(q.2:Nat))=((k+q.2:Nat):Int):=wrap64 (by omega)
   simp only [foldS]
   by_cases hst:(step a q).2=true
   ·right
    rw [hst] at hyy
    refine ⟨⟨[(0,.yld b),(1,.ptr p 0),(3,.flat (.int .i64 ((k+q.2:Nat):Int)))],cl (oc (step a q).1),[],BX (step a q).1⟩,((step a q).1,k+q.2),?_,?_,⟨hI a k q ha hlt hq hsz.1 (by omega) hst,by dsimp only;omega⟩,by dsimp only;omega,?_⟩
    ·simp only [on_utf_all_1_0,go_sem,simprocAttr,cl_keep,cl_owns,cl_cells,cl_drop,cl_slots,hb,S_size,hc,e1,hyy,w1,trim_same h1,h1,h2,dropCs_nil]
    ·simp only [go_sem,simprocAttr,cl_keep,cl_owns,trim_same h2,h2,cl_under _ (hoc _)]
    ·simp only [hst,if_true]
   ·left
    have hst:(step a q).2=false:=by simpa using hst
    rw [hst] at hyy
    refine ⟨.ret,⟨[],cl (oc (step a q).1),[],BX (step a q).1⟩,?_,by simp,?_⟩
    ·simp only [on_utf_all_1_0,go_sem,simprocAttr,cl_keep,cl_owns,cl_cells,cl_drop,cl_slots,hb,S_size,hc,e1,hyy,trim_same h1,h1,h2,dropCs_nil]
    ·simp only [hst,Bool.false_eq_true,if_false]
  ·left
   have hkl:k=l.length:=by omega
   subst hkl
   have hc:¬ ((l.length:Int)<l.length):=by omega
   refine ⟨.exit 0,⟨[],cl (oc a),[],BX a⟩,?_,by simp,?_⟩
   ·simp only [on_utf_all_1_0,go_sem,simprocAttr,cl_keep,cl_owns,cl_cells,cl_drop,cl_slots,hb,S_size,hc,trim_same h1,h1]
   ·simp only [List.drop_length,runesU_nil,foldS,if_true]
theorem all_ev (l:Str) (bx:Boxes) (oc:List (Nat × Nat)) (h:∀ q∈oc,q.1<bx.length):evW code lib 52 [.flat (.string (S l))] bx (cl oc)=some ([.clo 102 [.ptr bx.length 0]],false,bx++[(9,[.flat (.string (S l))])],cl oc):=by
 refine evW_eq code_utf_all (Nat.le_of_ble_eq_true rfl) ?_
 have h2:∀ q∈oc,q.1<(bx++[(9,[PV.flat (.string (S l))])]).length:=fun q hq=>by have:=h q hq;simp;omega
 have h3:¬ (bx.length+1=bx.length):=by omega
 have h4:underO (bx.length+1) (cl oc)=cl oc:=cl_under _ fun q hq=>by have:=h q hq;omega
 simp only [go_sem,simprocAttr,cl_keep,cl_owns,cl_cells,cl_drop,List.length_append,h3,Nat.lt_irrefl,h4]
theorem cl_nil:cl []=[]:=rfl
theorem all_ev0 (l:Str) (bx:Boxes):evW code lib 52 [.flat (.string (S l))] bx []=some ([.clo 102 [.ptr bx.length 0]],false,bx++[(9,[.flat (.string (S l))])],[]):=all_ev l bx [] (by simp)
def badQ (q:Nat × Nat):Bool:=decide (q.1=65533∧q.2=1)
def isU (l:Str):Bool:=(runesU l).all fun q=>!badQ q
def stepI (a:Bool) (q:Nat × Nat):Bool × Bool:=if badQ q then (true,false) else (a,true)
def bxI (l:Str) (a:Bool):Boxes:=[(4,[.flat (.bool false)]),(9,[.flat (.string (S l))]),(0,[.lp 106 0 (if a then .done .ret else .ready) [2] [.ptr 0 0]])]
theorem foldI (L:List (Nat × Nat)):foldS stepI false L=(!(L.all fun q=>!badQ q),L.all fun q=>!badQ q):=by
 induction L with
 | nil=>rfl
 | cons q L ih =>
   simp only [foldS,stepI,List.all_cons]
   by_cases h:badQ q=true
   ·simp [h]
   ·simp only [h,Bool.false_eq_true,if_false,if_true]
    rw [ih];simp
theorem isU_round (l:Str) (q:Nat × Nat) (h1:q.1<8388608) (h2:q.2≤4):evW code lib yldF [.yld 2,.flat (.int .i32 (q.1:Nat)),.flat (.int .i64 (q.2:Nat))] (bxI l false) []=some ([.flat (.bool (stepI false q).2)],false,bxI l (stepI false q).1,[]):=by
 refine evW_round code_yld code_utf_Is rfl rfl rfl ?_
 by_cases c1:q.1=65533
 ·have c1':((q.1:Nat):Int)=65533:=by omega
  by_cases c2:q.2=1
  ·have c2':((q.2:Nat):Int)=1:=by omega
   have hb:badQ q=true:=by simp [badQ,c1,c2]
   simp only [h_utf_Is_0,g_utf_Is_0,bxI,stepI,hb,c1',c2',go_sem,simprocAttr]
  ·have c2':¬ ((q.2:Nat):Int)=1:=by omega
   have hb:badQ q=false:=by simp [badQ,c2]
   simp only [h_utf_Is_0,g_utf_Is_0,bxI,stepI,hb,c1',c2',go_sem,simprocAttr]
 ·have c1':¬ ((q.1:Nat):Int)=65533:=by omega
  have hb:badQ q=false:=by simp [badQ,c1]
  simp only [h_utf_Is_0,g_utf_Is_0,bxI,stepI,hb,c1',go_sem,simprocAttr]
theorem isU_ev (l:Str) (hs:Sm l):evW code lib 106 [.flat (.string (S l))] [] []=some ([.flat (.bool (isU l))],false,[],[]):=by
 refine evW_eq code_utf_Is (Nat.le_of_ble_eq_true rfl) ?_
 have hrun:=all_run (lib:=lib) l hs (bxI l) (fun _=>[]) stepI (fun a _=>a=false) 2 1 3 (fun a _ _=>rfl) (fun a=>rfl) (fun a q hq=>by cases hq) (fun a k q ha _ _ _ _ hst=>by
  subst ha;unfold stepI at hst ⊢;split<;>simp_all) (fun a k q ha _ _ _ h1 h2=>by subst ha;exact isU_round l q h1 h2) false rfl
 rw [foldI] at hrun
 simp only [cl_nil] at hrun
 have e0:=fun bx=>all_ev0 (lib:=lib) l bx
 cases hi:isU l with
 | true =>
   have hi':((runesU l).all fun q=>!badQ q)=true:=hi
   simp only [hi',bxI,Bool.not_true,Bool.false_eq_true,if_false] at hrun
   simp only [go_sem,simprocAttr,e0,hrun]
 | false =>
   have hi':((runesU l).all fun q=>!badQ q)=false:=hi
   simp only [hi',bxI,Bool.not_false,Bool.false_eq_true,if_false,if_true] at hrun
   simp only [go_sem,simprocAttr,e0,hrun]
def rcells (l:List Nat):List PV:=l.map fun r=>.flat (.int .i32 (r:Nat))
theorem rcells_len {l:List Nat}:(rcells l).length=l.length:=by simp [rcells]
theorem rcells_app {a b:List Nat}:rcells a++rcells b=rcells (a++b):=by simp [rcells]
theorem rcells_noU8:∀ a:List Nat,noU8 (rcells a)=true
 | []=>rfl
 | c::a=>by show noU8 (.flat (.int .i32 (c:Nat))::rcells a)=true;rw [noU8_cons,rcells_noU8 a];rfl
theorem rcells_low {n:Nat}:∀ a:List Nat,lows n (rcells a)=true
 | []=>rfl
 | c::a=>by show lows n (.flat (.int .i32 (c:Nat))::rcells a)=true;simp only [lows,PV.low,rcells_low a,Bool.true_and]
def bxR (l:Str) (out:List Nat):Boxes:=[(181,[.slc out.length (rcells out)]),(9,[.flat (.string (S l))]),(0,[.lp 149 0 .ready [3] [.ptr 0 0]])]
def stepR (out:List Nat) (q:Nat × Nat):List Nat × Bool:=(out++[q.1],true)
theorem foldR:∀ (L:List (Nat × Nat)) (out:List Nat),foldS stepR out L=(out++L.map (·.1),true)
 | [],out=>by simp [foldS]
 | q::L,out=>by simp only [foldS,stepR,if_true];rw [foldR L];simp
theorem runes_round (l:Str) (out:List Nat) (q:Nat × Nat) (ho:out.length<4294967296):evW code lib yldF [.yld 2,.flat (.int .i32 (q.1:Nat)),.flat (.int .i64 (q.2:Nat))] (bxR l out) [.cell 0 0]=some ([.flat (.bool true)],false,bxR l (out++[q.1]),[.cell 0 0]):=by
 refine evW_round code_yld code_utf_Runes rfl rfl rfl ?_
 have hb:out.length+1≤bound:=by unfold bound;omega
 have h1:[PV.flat (.int .i32 (q.1:Nat))]=rcells [q.1]:=rfl
 simp only [h_utf_Runes_0,g_utf_Runes_0,bxR,go_sem,simprocAttr,rcells_len,rcells_noU8,hb,Nat.mul_one]
 simp only [h1,rcells_app,List.length_append,List.length_cons,List.length_nil]
def numsU (l:Str):List Nat:=(runesU l).map (·.1)
theorem runes_ev (l:Str) (hs:l.length<4294967296):evW code lib 149 [.flat (.string (S l))] [] []=some ([.slc (numsU l).length (rcells (numsU l))],false,[],[]):=by
 refine evW_eq code_utf_Runes (Nat.le_of_ble_eq_true rfl) ?_
 have hrun:=all_run (lib:=lib) l (by unfold Sm;omega) (bxR l) (fun _=>[(0,0)]) stepR (fun out k=>out.length≤k) 2 1 3 (fun a _ _=>rfl) (fun a=>rfl) (fun a q hq=>by simp at hq;subst hq;decide) (fun a k q ha _ _ h1 _ _=>by simp only [stepR,List.length_append,List.length_cons,List.length_nil];omega) (fun a k q ha h0 _ h1 _ _=>runes_round l a q (by omega)) [] (Nat.zero_le _)
 rw [foldR] at hrun
 have hc:cl [(0,0)]=[.cell 0 0]:=rfl
 simp only [hc,List.nil_append] at hrun
 have e0:=fun bx h=>all_ev (lib:=lib) l bx [(0,0)] h
 simp only [hc] at e0
 have hrun2:evW code lib 102 [.yld 2,.ptr 1 0] [(181,[.slc 0 []]),(9,[.flat (.string (S l))]),(0,[.lp 149 0 .ready [3] [.ptr 0 0]])] [.cell 0 0]=some ([],false,bxR l (numsU l),[.cell 0 0]):=hrun
 have e1:=e0 [(181,[.slc 0 []])] (by simp)
 simp only [go_sem,simprocAttr] at e1
 have e2:=all_ev0 (lib:=lib) l []
 simp only [go_sem,simprocAttr] at e2
 simp only [go_sem,simprocAttr,e1,e2,hrun2,bxR,rcells_low]
end Nun
end
section
namespace Go.Proofs.YtmpiobfdchlikaaGreatDoor
open Go.RowKit Nun
theorem sizeBb:(Tryz.prog.info? 59).map (·.size)=some 2:=by kernel_rfl
set_option maxHeartbeats 1000000 in
set_option maxRecDepth 100000 in
theorem cc_used (b o:Nat) (w:World) (h0:w.cell? ⟨b,o,none⟩=some (.pointer (some ⟨b,o,none⟩))) :
 Calls Tryz.prog 95 #[.pointer (some ⟨b,o,none⟩)] w fun e w'=>e=.returned (.tuple #[])∧w'=w:=by
 obtain ⟨j,hj,_⟩:=Option.map_eq_some_iff.1 sizeBb
 go_enter Tryz.func95,Tryz.ntmps95
 go_wp2
 rw [Lib.run_neq_ptr_same w _ Tryz.underlying57 hj]
 go_wp2
 go_end0
 exact ⟨rfl,rfl⟩
set_option maxHeartbeats 1000000 in
set_option maxRecDepth 100000 in
theorem cc_fresh (b o e cells:Nat) (w:World) (h0:w.cell? ⟨b,o,none⟩=some (.pointer none)) (hsh:w.shape? b=some (e,cells)) (ho:o<cells) (hl:liesAt Tryz.prog Tryz.prog.depth e (cells / Tryz.prog.cellsOf e) o 59 1=true) (hfz:w.frozen? ⟨b,o,none⟩=false) :
 Calls Tryz.prog 95 #[.pointer (some ⟨b,o,none⟩)] w fun e w'=>e=.returned (.tuple #[])∧w'=w.setCell ⟨b,o,none⟩ (.pointer (some ⟨b,o,none⟩)):=by
 obtain ⟨j,hj,hjs⟩:=Option.map_eq_some_iff.1 sizeBb
 have hc0:(w.setCell ⟨b,o,none⟩ (.pointer (some ⟨b,o,none⟩))).cell? ⟨b,o,none⟩=some (.pointer (some ⟨b,o,none⟩)):=World.cell?_setCell_same' _ _ _ (by rw [h0];rfl)
 go_enter Tryz.func95,Tryz.ntmps95
 go_wp2
 rw [Lib.run_to_unsafe w ⟨b,o,none⟩ Tryz.underlying57 Tryz.underlying184 hj (by rw [hjs];decide) hsh ho]
 simp only [Result.andThen]
 rw [Oper.upon_value]
 go_wp2
 rw [run_callFunc_extern Tryz.func151 (by kernel_rfl) (by kernel_rfl) (by kernel_rfl) (e:=Extern.AbiNoEscape.same) (by kernel_rfl)]
 rw [Lib.run_noEscape]
 simp only [Result.andThen]
 rw [Oper.upon_value]
 go_wp2
 rw [Lib.run_from_unsafe w ⟨b,o,none⟩ Tryz.underlying184 Tryz.underlying57 hj hsh hl]
 simp only [Result.andThen]
 rw [Oper.upon_value]
 go_wp2
 go_end0
 exact ⟨rfl,rfl⟩
def Froze (w:World) (g n:Nat) (w':World):Prop:=w'.heap=(w.freeze ⟨g,0,none⟩ n).heap∧w'.os=w.os∧w'.tape=w.tape∧w'.output=w.output
set_option maxHeartbeats 1000000 in
set_option maxRecDepth 100000 in
theorem st_row (b o g cap cells:Nat) (l:List UInt8) (w:World) (h0:l≠[]) (hcap:cap≠0) (c0:w.cell? ⟨b,o+1,none⟩=some (.slice (some ⟨g,0,none⟩) l.length cap)) (hsh:w.shape? g=some (5,cells)) (hn:l.length≤cells) (hmx:l.length≤maxLen) (hcell:∀ j x,l[j]? =some x→w.cell? ((⟨g,0,none⟩:Addr).add j)=some (.int .u8 x.toNat)) :
 Calls Tryz.prog 28 #[.pointer (some ⟨b,o,none⟩)] w fun e w'=>e=.returned (.string ⟨l.toArray⟩)∧Froze w g l.length w':=by
 have c1:w.drew.cell? ⟨b,o+1,none⟩=some (.slice (some ⟨g,0,none⟩) l.length cap):=c0
 have hSD:(Builtin.unsafeSliceData_ #[44] 93 #[.slice (some ⟨g,0,none⟩) l.length cap]).run Tryz.prog w.drew=.ok (.pointer (some ⟨g,0,none⟩)) w.drew :=
  Lib.run_unsafeSliceData_row _ _ _ _ _ _ hcap
 have hUS:(Builtin.unsafeString_ #[93,3] 9 #[.pointer (some ⟨g,0,none⟩),.int .i64 l.length]).run Tryz.prog w.drew=.ok (.string ⟨l.toArray⟩) (w.drew.freeze ⟨g,0,none⟩ l.length) :=
  Lib.run_unsafeString_row w.drew 93 3 9 5 Tryz.underlying93 (by kernel_rfl) g cells hsh l h0 hn (by unfold maxLen at hmx;omega) hcell
 have hq:Froze w g l.length (w.drew.freeze ⟨g,0,none⟩ l.length):=by
  refine ⟨?_,?_,?_,?_⟩<;>unfold World.freeze<;>(have:w.drew.heap=w.heap:=rfl)<;>rw [this]<;>split<;>rfl
 have mixed:=Tryz.checked.mixed
 go_enter Tryz.func28,Tryz.ntmps28
 go_wp2
 go_region_o
 all_goals (go_wp2;go_ret;exact ⟨rfl,hq⟩)
set_option maxHeartbeats 1000000 in
set_option maxRecDepth 100000 in
theorem st_nil (b o:Nat) (w:World) (c0:w.cell? ⟨b,o+1,none⟩=some (.slice none 0 0)) :
 Calls Tryz.prog 28 #[.pointer (some ⟨b,o,none⟩)] w fun e w'=>e=.returned (.string ⟨#[]⟩)∧Below w.heap.size w w':=by
 have c1:w.drew.cell? ⟨b,o+1,none⟩=some (.slice none 0 0):=c0
 have hUS:=fun (W:World) (q:Option Addr)=>Lib.run_unsafeString_none (P:=Tryz.prog) W 93 3 9 q
 have hSD:(Builtin.unsafeSliceData_ #[44] 93 #[.slice none 0 0]).run Tryz.prog w.drew=.ok (.pointer none) w.drew:=rfl
 have mixed:=Tryz.checked.mixed
 go_enter Tryz.func28,Tryz.ntmps28
 go_wp2
 go_region_o
 all_goals (go_wp2;go_ret;exact ⟨rfl,Below.drew (Below.refl _ w)⟩)
set_option maxHeartbeats 1000000 in
set_option maxRecDepth 100000 in
theorem st_zero (b o g e cells:Nat) (w:World) (c0:w.cell? ⟨b,o+1,none⟩=some (.slice (some ⟨g,0,none⟩) 0 0)) (hlt:b<w.heap.size) (hsh:w.shape? g=some (e,cells)) :
 Calls Tryz.prog 28 #[.pointer (some ⟨b,o,none⟩)] w fun e w'=>e=.returned (.string ⟨#[]⟩)∧Below w.heap.size w w':=by
 have hUS:=fun (W:World) (q:Option Addr)=>Lib.run_unsafeString_none (P:=Tryz.prog) W 93 3 9 q
 have c1:w.drew.cell? ⟨b,o+1,none⟩=some (.slice (some ⟨g,0,none⟩) 0 0):=c0
 have hSD:(Builtin.unsafeSliceData_ #[44] 93 #[.slice (some ⟨g,0,none⟩) 0 0]).run Tryz.prog w.drew=.ok (.pointer (some ⟨w.drew.heap.size,0,none⟩)) (w.drew.alloc (.view ⟨g,0,none⟩ 5)) :=
  Lib.run_unsafeSliceData_zero w.drew _ _ 5 Tryz.underlying93 ⟨g,0,none⟩ 0 (e,cells) hsh
 have c2:(w.drew.alloc (.view ⟨g,0,none⟩ 5)).cell? ⟨b,o+1,none⟩=some (.slice (some ⟨g,0,none⟩) 0 0):=by
  have hb:(w.drew.alloc (.view ⟨g,0,none⟩ 5)).heap[b]? =w.heap[b]? :=Lib.alloc_old w.drew _ b hlt
  rw [← c0]
  simp only [World.cell?,hb]
 have c3:(w.alloc (.view ⟨g,0,none⟩ 5)).drew.cell? ⟨b,o+1,none⟩=some (.slice (some ⟨g,0,none⟩) 0 0):=c2
 have mixed:=Tryz.checked.mixed
 go_enter Tryz.func28,Tryz.ntmps28
 go_wp2
 go_region_o
 all_goals (go_wp2;go_ret;exact ⟨rfl,(Below.drew (Below.refl _ w)).alloc (Nat.le_refl _) _⟩)
end Go.Proofs.YtmpiobfdchlikaaGreatDoor
end
section
namespace Nun
open Go Go.RowKit Go.Proofs Go.Proofs.YtmpiobfdchlikaaGreatDoor
noncomputable def ccLib (args:List PV) (bx:Boxes) (oc:List Loc):Option Ans:=match args with
 | [.ptr b o]=>(boxAt bx b).bind fun q=>match q.2[o]? with
   | some (.flat (.pointer none))=>if o<q.2.length∧liesAt Tryz.prog Tryz.prog.depth q.1 (q.2.length / Tryz.prog.cellsOf q.1) o 59 1=true then some ([],false,bx.set b (q.1,q.2.take o++[.ptr b o]++q.2.drop (o+1)),oc) else none
   | some (.ptr b' o')=>if b'=b∧o'=o then some ([],false,bx,oc) else none
   | _=>none
 | _=>none
def stLib (args:List PV) (bx:Boxes) (oc:List Loc):Option Ans:=match args with
 | [.ptr b o]=>(boxAt bx b).bind fun q=>match q.2[o+1]? with
   | some (.slc n cs)=>if cs.length=n∧.cell b (o+1)∈oc then (bytesOf cs).map fun l=>([.flat (.string ⟨l.toArray⟩)],false,bx,oc.filter (·≠.cell b (o+1))) else none
   | _=>none
 | _=>none
noncomputable def bldLib:Callee:=fun f args bx oc=>if f=95 then ccLib args bx oc else if f=28 then stLib args bx oc else none
def orLib (a b:Callee):Callee:=fun f args bx oc=>match a f args bx oc with
 | some r=>some r
 | none=>b f args bx oc
theorem orLib_ok {P:Program} {Γ:Glob} {a b:Callee} (ha:CallOk P Γ a) (hb:CallOk P Γ b):CallOk P Γ (orLib a b):=fun f args bx oc vs' os bx' oc' h=>by
 unfold orLib at h
 split at h
 ·rename_i r e;rw [h] at e;exact ha f args bx oc vs' os bx' oc' e
 ·exact hb f args bx oc vs' os bx' oc' h
section
variable {Γ:Glob}
theorem cc_ok {args:List PV} {bx:Boxes} {oc:List Loc} {vs':List PV} {os:Bool} {bx':Boxes} {oc':List Loc} (he:ccLib args bx oc=some (vs',os,bx',oc')) {w:World} {Fr:Nat→Nat} {β:List Nat} {vs:List Value} (hp:Pre Tryz.prog Γ w Fr β args vs bx oc) :
 Calls Tryz.prog 95 vs.toArray w fun e w'=>∃ v Fr' β',e=.returned v∧Post Tryz.prog w Fr β oc vs' os bx' oc' v w' Fr' β':=by
 unfold ccLib at he
 split at he
 case h_2=>cases he
 rename_i b o
 obtain ⟨q,hq,he2⟩:=Option.bind_eq_some_iff.1 he
 clear he
 have hR:=hp.rel
 have ha:=hp.args
 simp only [Rds,Rd] at ha
 obtain ⟨_,_,rfl,⟨g,hg,rfl⟩,rfl⟩:=ha
 obtain ⟨hqs,hlp,g',cvs,e,b1,b2,b3,b4,b5,b6⟩:=hR.bx.cells hq
 rw [hg] at b1;cases b1
 have hcl:=b3.length
 have hsh:w.shape? g=some (q.1,q.2.length):=by simp [World.shape?,b2,b6,hcl]
 have rdt:∀ {w':World} {Fr':Nat→Nat} {β':List Nat},Rd w' Fr' β' (tupOf []) (.tuple #[]):=by simp [tupOf,Rd,Rds]
 split at he2
 ·rename_i ho
  split at he2
  case isFalse=>cases he2
  rename_i hc
  cases he2
  obtain ⟨u,u1,u2⟩:=b3.get o _ ho
  obtain ⟨rfl,_⟩:=rd_flat u2
  have h0:w.cell? ⟨g,o,none⟩=some (.pointer none):=by rw [cell_of_row _ _ _ _ _ _ b2];simpa using u1
  refine (cc_fresh g o q.1 q.2.length w h0 hsh hc.1 hc.2 (Lib.frozen_of_heap b2 o)).mono ?_
  rintro e' w' ⟨rfl,rfl⟩
  have hset:w.setCell ⟨g,o,none⟩ (.pointer (some ⟨g,o,none⟩))=w.setRow g (cvs.take o++[Value.pointer (some ⟨g,o,none⟩)]++cvs.drop (o+1)).toArray:=by
   rw [setCell_eq_setRow w g o _ _ _ _ b2]
   congr 1
   apply Array.ext'
   have hlt:o<cvs.length:=by omega
   rw [Array.toList_setIfInBounds,List.set_eq_take_append_cons_drop]
   simp [hlt]
  rw [hset]
  have hno:∀ L∈oc,mentC b o 1 L=false:=fun L hL=>by
   cases L with
   | slot i=>rfl
   | cell b' j =>
     rw [Bool.eq_false_iff]
     intro hm
     have hbj:b'=b∧j=o:=by
      simp only [mentC,Bool.and_eq_true,beq_iff_eq,decide_eq_true_eq] at hm
      exact ⟨hm.1.1,by omega⟩
     obtain ⟨rfl,rfl⟩:=hbj
     obtain ⟨v,p,k1,k2,n,cs,k3,_⟩:=hR.own _ hL
     have hb:(boxSt bx oc).bx=bx:=rfl
     simp only [pvAt,hb] at k2
     have hqs':bx[b']? =some q:=hqs
     rw [hqs',Option.bind_some,ho,k3] at k2
     cases k2
  obtain ⟨R',hl⟩:=hR.store (o:=o) (n:=1) (ps:=[.ptr b o]) (us:=[Value.pointer (some ⟨g,o,none⟩)]) (e:=e) (cs:=q.2) (by rw [← b6];exact hqs) hg b2 b3 b4 (by simp only [Rds,Rd];exact ⟨_,_,rfl,⟨g,hg,rfl⟩,rfl⟩) (fun u hu=>by simp at hu;subst hu;rfl) rfl (by omega) (by omega) none (fun s h=>by cases h)
   (boxSt (bx.set b (q.1,q.2.take o++[.ptr b o]++q.2.drop (o+1))) oc) rfl (by rw [b6];rfl) (fun L hL=>.inl ⟨hL,hno L hL,fun s h=>by cases h⟩) (fun q hq=>by cases hq)
  exact ⟨.tuple #[],Fr,β,rfl,rdt,R',hl,hp.cells,fun h=>by cases h⟩
 ·rename_i b' o' ho
  split at he2
  case isFalse=>cases he2
  rename_i hc
  cases he2
  obtain ⟨rfl,rfl⟩:=hc
  obtain ⟨u,u1,u2⟩:=b3.get o' _ ho
  simp only [Rd] at u2
  obtain ⟨g2,hg2,rfl⟩:=u2
  rw [hg] at hg2;cases hg2
  have h0:w.cell? ⟨g,o',none⟩=some (.pointer (some ⟨g,o',none⟩)):=by rw [cell_of_row _ _ _ _ _ _ b2];simpa using u1
  refine (cc_used g o' w h0).mono ?_
  rintro e' w' ⟨rfl,rfl⟩
  exact ⟨.tuple #[],Fr,β,rfl,rdt,hR,Le.refl _ _ _,hp.cells,fun h=>by cases h⟩
 ·cases he2
theorem u8_is:U8 Tryz.prog=5:=by kernel_rfl
theorem bytesOf_no:∀ {cs:List PV} {l:List UInt8},bytesOf cs=some l→l≠[]→noU8 cs=false
 | [],l,h,h0=>by simp only [bytesOf,Option.some.injEq] at h;exact absurd h.symm h0
 | p::r,l,h,h0=>by
   unfold bytesOf at h
   split at h
   ·rename_i e;cases e
   ·rename_i e;cases e;rfl
   ·cases h
theorem froze_cell {w w':World} {g n:Nat} (h:Froze w g n w') (a:Addr):w'.cell? a=w.cell? a:=by
 obtain ⟨h,_⟩:=h
 unfold World.freeze at h
 split at h
 ·simp only [World.cell?,h]
 ·simp only [World.cell?,h,Array.getElem?_modify]
  by_cases e:g=a.block
  ·subst e
   simp only [if_true]
   generalize w.heap[a.block]? =x
   cases x with
   | none=>rfl
   | some o=>cases o<;>rfl
  ·rw [if_neg e]
theorem froze_other {w w':World} {g n k:Nat} (h:Froze w g n w') (hk:k≠g):w'.heap[k]? =w.heap[k]? :=by
 obtain ⟨h,_⟩:=h
 unfold World.freeze at h
 split at h
 ·rw [h]
 ·rw [h];simp only [Array.getElem?_modify,if_neg (Ne.symm hk)]
theorem froze_size {w w':World} {g n:Nat} (h:Froze w g n w'):w'.heap.size=w.heap.size:=by
 obtain ⟨h,_⟩:=h
 unfold World.freeze at h
 split at h
 ·rw [h]
 ·rw [h];simp
theorem bytesOf_len:∀ {cs:List PV} {l:List UInt8},bytesOf cs=some l→l.length=cs.length
 | [],l,h=>by simp only [bytesOf,Option.some.injEq] at h;subst h;rfl
 | p::r,l,h=>by
   unfold bytesOf at h
   split at h
   ·rename_i e;cases e
   ·rename_i n r' e
    cases e
    split at h
    ·obtain ⟨l',hl',rfl⟩:=Option.map_eq_some_iff.1 h
     simp [bytesOf_len hl']
    ·cases h
   ·cases h
theorem st_ok {args:List PV} {bx:Boxes} {oc:List Loc} {vs':List PV} {os:Bool} {bx':Boxes} {oc':List Loc} (he:stLib args bx oc=some (vs',os,bx',oc')) {w:World} {Fr:Nat→Nat} {β:List Nat} {vs:List Value} (hp:Pre Tryz.prog Γ w Fr β args vs bx oc) :
 Calls Tryz.prog 28 vs.toArray w fun e w'=>∃ v Fr' β',e=.returned v∧Post Tryz.prog w Fr β oc vs' os bx' oc' v w' Fr' β':=by
 unfold stLib at he
 split at he
 case h_2=>cases he
 rename_i b o
 obtain ⟨q,hq,he2⟩:=Option.bind_eq_some_iff.1 he
 clear he
 have hR:=hp.rel
 have ha:=hp.args
 simp only [Rds,Rd] at ha
 obtain ⟨_,_,rfl,⟨g,hg,rfl⟩,rfl⟩:=ha
 split at he2
 case h_2=>cases he2
 rename_i n cs ho
 split at he2
 case isFalse=>cases he2
 rename_i hc
 obtain ⟨hcn,hown⟩:=hc
 obtain ⟨l,hl,he3⟩:=Option.map_eq_some_iff.1 he2
 clear he2
 cases he3
 obtain ⟨hqs,hlp,g',cvs,e,b1,b2,b3,b4,b5,b6⟩:=hR.bx.cells hq
 rw [hg] at b1;cases b1
 have hglt:g<w.heap.size:=(Array.getElem?_eq_some_iff.1 b2).1
 have hll:=bytesOf_len hl
 obtain ⟨v,p,k1,k2,k3⟩:=hR.own _ hown
 have hrd:=hR.rdAt k1 k2
 have hb:(boxSt bx oc).bx=bx:=rfl
 have hqs':bx[b]? =some q:=hqs
 simp only [pvAt,hb,hqs',Option.bind_some,ho,Option.some.injEq] at k2
 subst k2
 have c0:w.cell? ⟨g,o+1,none⟩=some v:=by simpa only [valAt,hg,Option.bind_some] using k1
 have fin:∀ w',Rel Tryz.prog w.heap.size (MayOf w β oc) w Fr 0 (boxSt bx (oc.filter (·≠.cell b (o+1)))) act0 w' Fr β→Le w Fr β w' Fr β→Post Tryz.prog w Fr β oc [.flat (.string ⟨l.toArray⟩)] false bx (oc.filter (·≠.cell b (o+1))) (.string ⟨l.toArray⟩) w' Fr β:=fun w' R' hl' =>
  ⟨flat_rd rfl,R',hl',fun L hL=>hp.cells L (List.mem_filter.1 hL).1,fun h=>by cases h⟩
 have grown:∀ w',Below w.heap.size w w'→Post Tryz.prog w Fr β oc [.flat (.string ⟨l.toArray⟩)] false bx (oc.filter (·≠.cell b (o+1))) (.string ⟨l.toArray⟩) w' Fr β:=fun w' hb=>by
  obtain ⟨R',hl'⟩:=hR.grow hb (Fr':=Fr) fun _ _=>rfl
  exact fin w' (R'.cut0 (st':=boxSt bx (oc.filter (·≠.cell b (o+1)))) (fun i=>.inl rfl) rfl (fun L hL=>⟨(List.mem_filter.1 hL).1,fun i _=>rfl⟩) rfl) hl'
 obtain ⟨n',cs',hpe,hv⟩:=k3
 cases hpe
 rcases hv with rfl | ⟨g2,cap,cur,e2,sz,rfl,h2,h3,h4,h5,h6,h7,h8,h9⟩
 ·have hn0:n=0:=by
   simp only [Rd] at hrd
   obtain ⟨a,cap,h1,_⟩:=hrd
   cases h1;rfl
  have hl0:l=[]:=List.eq_nil_of_length_eq_zero (by omega)
  subst hl0
  refine (st_nil g o w c0).mono ?_
  rintro e' w' ⟨rfl,hb⟩
  exact ⟨_,Fr,β,rfl,grown w' hb⟩
 ·by_cases hl0:l=[]
  ·subst hl0
   have hn0:n=0:=by simp at hll;omega
   have hc0:cap=0:=h8 hn0
   subst hn0;subst hc0
   refine (st_zero g o g2 e2 cur.size w c0 hglt (by simp [World.shape?,h2])).mono ?_
   rintro e' w' ⟨rfl,hb⟩
   exact ⟨_,Fr,β,rfl,grown w' hb⟩
  ·have hlp0:0<l.length:=List.length_pos_iff.2 hl0
   have hnl:n=l.length:=by omega
   subst hnl
   have hsz:sz=1:=by
    have:l.length * sz=l.length * 1:=by rw [← h7];omega
    exact Nat.eq_of_mul_eq_mul_left hlp0 this
   subst hsz
   have heU:e2=5:=by
    rcases h9 rfl with h | h
    ·rw [bytesOf_no hl hl0] at h;cases h
    ·rw [h];exact u8_is
   subst heU
   have hrow:∀ j x,l[j]? =some x→w.cell? ((⟨g2,0,none⟩:Addr).add j)=some (.int .u8 x.toNat):=fun j x hj=>by
    simp only [Rd] at hrd
    obtain ⟨a,cap',h1,_,hr⟩:=hrd
    rcases hr with ⟨_,h0⟩ | ⟨g3,o3,vs3,rfl,r1,r2,r3⟩
    ·omega
    ·cases h1
     have hb:=bytesOf_rds hl r2
     rw [add_eq]
     exact (r1 j _ (by rw [hb,List.getElem?_map,hj];rfl)).2
   have hng:∀ k∈β,k≠g2:=fun k hk e=>hR.out _ hown _ g2 k1 rfl (e ▸ hk)
   refine (st_row g o g2 cap cur.size l w hl0 (by omega) c0 (by simp [World.shape?,h2]) (by omega) (by omega) hrow).mono ?_
   rintro e' w' ⟨rfl,hf⟩
   have hcell:=froze_cell hf
   have hoth:∀ k,k≠g2→w'.heap[k]? =w.heap[k]? :=fun k hk=>froze_other hf hk
   have hle:Le w Fr β w' Fr β:=⟨by rw [froze_size hf];exact Nat.le_refl _,fun _ _=>Nat.le_refl _,fun k j _ _=>hcell _,fun _ _ h=>h,fun k r hk=>⟨r,(hoth k fun e=>by rw [e,h2] at hk;cases hk).trans hk⟩⟩
   have hval:∀ L,valAt act0 w' β L=valAt act0 w β L:=fun L=>by
    cases L with
    | slot i=>rfl
    | cell b' j =>
      simp only [valAt]
      cases β[b']? with
      | none=>rfl
      | some k=>simp only [Option.bind_some,hcell]
   have mem:∀ L,L∈oc.filter (·≠.cell b (o+1))→L∈oc∧L≠.cell b (o+1):=fun L hL=>by simpa using hL
   refine ⟨_,Fr,β,rfl,fin w' (hR.next hle (fun i=>by simp [boxSt,look,Rd]) rfl rfl (hR.bx.kept hle fun k hk=>⟨hoth k (hng k hk),rfl⟩) hR.nd (fun g h=>.inl h) some (fun L hL=>?_) (fun L _ L' _ hne L0 h h'=>hne (by cases h;cases h';rfl)) (fun L _ L' _ _ h=>by cases h) (fun q hq=>by cases hq) (fun k hk _ hno=>⟨hoth k fun e=>hno _ hown _ k1 (by rw [e];rfl),rfl⟩) hf.2.1 hf.2.2.1 hf.2.2.2) hle⟩
   obtain ⟨m1,m2⟩:=mem L hL
   obtain ⟨u,q',j1,j2,j3⟩:=hR.own L m1
   refine ⟨u,q',by rw [hval];exact j1,?_,j3.kept fun k hk=>⟨hoth k fun e=>?_,rfl⟩,fun k hk=>.inr ⟨L,m1,rfl,u,j1,hk⟩⟩
   ·cases L with
    | slot i=>exact j2
    | cell b' j=>exact j2
   ·exact hR.sep L m1 _ hown m2 u _ k j1 k1 hk (by rw [e];rfl)
theorem bldLib_ok:CallOk Tryz.prog Γ bldLib:=fun f args bx oc vs' os bx' oc' he w Fr β vs hp=>by
 unfold bldLib at he
 split at he
 ·rename_i hf
  subst hf
  exact enters_of (by kernel_rfl) (by decide) (cc_ok he hp)
 ·split at he
  ·rename_i hf
   subst hf
   exact enters_of (by kernel_rfl) (by decide) (st_ok he hp)
  ·cases he
end
end Nun
end
section
namespace Nun
open Go Go.RowKit Go.Proofs Go.Proofs.YtmpiobfdchlikaaGreatDoor
variable {lib:Callee}
def BldIn (lib:Callee):Prop:=∀ f args bx oc r,bldLib f args bx oc=some r→lib f args bx oc=some r
theorem bldIn_or {a:Callee}:BldIn (orLib bldLib a):=fun f args bx oc r h=>by unfold orLib;rw [h]
def bld (u:Bool) (b:Nat) (l:Str) (rest:List PV):List PV:=(match u with | true=>.ptr b 0 | false=>.flat (.pointer none))::.slc l.length (bcells l)::rest
def liesB (e n:Nat):Prop:=liesAt Tryz.prog Tryz.prog.depth e (n / Tryz.prog.cellsOf e) 0 59 1=true
theorem liesB0:liesB 59 2:=by unfold liesB;kernel_rfl
theorem bld_lp {u:Bool} {b:Nat} {l:Str} {rest:List PV}:isLp (bld u b l rest)=false:=by cases u<;>rfl
theorem set_same {bx:Boxes} {b:Nat} {q:Nat × List PV} (h:bx[b]? =some q):bx.set b q=bx:=by
 apply List.ext_getElem?
 intro i
 by_cases e:b=i
 ·subst e;rw [List.getElem?_set_self (List.getElem?_eq_some_iff.1 h).1,h]
 ·rw [List.getElem?_set_ne e]
theorem cc_ev (HB:BldIn lib) {bx:Boxes} {oc:List Loc} {b e:Nat} {u:Bool} {l:Str} {rest:List PV} (hb:bx[b]? =some (e,bld u b l rest)) (hl:liesB e (2+rest.length)) :
 evW code lib 95 [.ptr b 0] bx oc=some ([],false,bx.set b (e,bld true b l rest),oc):=by
 refine evW_lib (by decide) (by kernel_rfl) (HB _ _ _ _ _ ?_)
 have hba:boxAt bx b=some (e,bld u b l rest):=by rw [boxAt_eq,hb,kBoxAt_s,bld_lp];rfl
 unfold bldLib ccLib
 rw [if_pos rfl]
 dsimp only
 rw [hba,Option.bind_some]
 cases u with
 | false =>
   have hc:0<(bld false b l rest).length∧liesAt Tryz.prog Tryz.prog.depth e ((bld false b l rest).length / Tryz.prog.cellsOf e) 0 59 1=true:=⟨by simp [bld],by
    have:(bld false b l rest).length=2+rest.length:=by simp [bld];omega
    rw [this];exact hl⟩
   show (if _ then _ else _)=_
   rw [if_pos hc]
   rfl
 | true =>
   show (if b=b∧0=0 then _ else _)=_
   rw [if_pos ⟨rfl,rfl⟩,set_same hb]
theorem st_ev (HB:BldIn lib) {bx:Boxes} {oc:List Loc} {b e:Nat} {u:Bool} {l:Str} {rest:List PV} (hb:bx[b]? =some (e,bld u b l rest)) (ho:.cell b 1∈oc) :
 evW code lib 28 [.ptr b 0] bx oc=some ([.flat (.string (S l))],false,bx,dropL (.cell b 1) oc):=by
 refine evW_lib (by decide) (by kernel_rfl) (HB _ _ _ _ _ ?_)
 have hba:boxAt bx b=some (e,bld u b l rest):=by rw [boxAt_eq,hb,kBoxAt_s,bld_lp];rfl
 unfold bldLib stLib
 rw [if_neg (by decide),if_pos rfl]
 dsimp only
 rw [hba,Option.bind_some]
 show (if (bcells l).length=l.length∧.cell b 1∈oc then _ else _)=_
 rw [if_pos ⟨bcells_len,ho⟩,bytesOf_bcells]
 rfl
theorem cl_dropL {b o:Nat}:∀ m:List (Nat × Nat),(∀ q∈m,q≠(b,o))→dropL (.cell b o) (cl m)=cl m
 | [],_=>rfl
 | q::m,h=>by
   show dropL (.cell b o) (.cell q.1 q.2::cl m)=_
   rw [dropL_cc,if_neg (fun k=>h q (by simp) (Prod.ext k.1 k.2)),cl_dropL m fun q hq=>h q (by simp [hq])];rfl
theorem cl_dropC {b o:Nat}:∀ m:List (Nat × Nat),(∀ q∈m,q≠(b,o))→dropC b o 1 (cl m)=cl m
 | [],_=>rfl
 | q::m,h=>by
   show dropC b o 1 (.cell q.1 q.2::cl m)=_
   rw [dropC_c,if_neg (fun k=>h q (by simp) (Prod.ext k.1 (by omega))),cl_dropC m fun q hq=>h q (by simp [hq])];rfl
theorem allU8_bcells:∀ a:Str,allU8 (bcells a)=true
 | []=>rfl
 | c::a=>by show allU8 (.flat (.int .u8 c.toNat)::bcells a)=true;rw [allU8_cons,allU8_bcells a];rfl
theorem ws_ev (HB:BldIn lib) {bx:Boxes} {r:List (Nat × Nat)} {b e:Nat} {u:Bool} {l m:Str} {rest:List PV} (hb:bx[b]? =some (e,bld u b l rest)) (hl:liesB e (2+rest.length)) (hs:l.length+m.length≤bound) (hr:∀ q∈r,q≠(b,1)) (hlt:∀ q∈r,q.1<bx.length) :
 evW code lib 47 [.ptr b 0,.flat (.string (S m))] bx (.cell b 1::cl r)=some ([.flat (.int .i64 m.length),.flat .nilIface],false,bx.set b (e,bld true b (l++m) rest),.cell b 1::cl r):=by
 refine evW_eq code_strings_Builder_WriteString (Nat.le_of_ble_eq_true rfl) ?_
 have hblt:b<bx.length:=(List.getElem?_eq_some_iff.1 hb).1
 have hcc:=fun oc=>cc_ev (oc:=oc) HB hb hl
 obtain ⟨bx1,h1⟩:∃ bx1,bx.set b (e,bld true b l rest)=bx1:=⟨_,rfl⟩
 have hb1:bx1[b]? =some (e,.ptr b 0::.slc l.length (bcells l)::rest):=by rw [← h1,List.getElem?_set_self hblt];rfl
 have hl1:bx1.length=bx.length:=by rw [← h1,List.length_set]
 have hset:∀ q,bx1.set b q=bx.set b q:=fun q=>by rw [← h1,List.set_set]
 rw [h1] at hcc
 simp only [go_sem,simprocAttr,hcc,cl_keep,cl_owns,cl_cells,cl_drop,cl_slots,cl_dropL r hr,cl_dropC r hr,cl_under r hlt,hb1,hl1,hblt,List.length_set,S_size,S_bcells,allU8_bcells,bcells_app,bcells_len,hs,hset,dropCs_nil]
 simp only [bld,List.length_append]
theorem wb_ev (HB:BldIn lib) {bx:Boxes} {r:List (Nat × Nat)} {b e:Nat} {u:Bool} {l:Str} {c:UInt8} {rest:List PV} (hb:bx[b]? =some (e,bld u b l rest)) (hl:liesB e (2+rest.length)) (hs:l.length+1≤bound) (hr:∀ q∈r,q≠(b,1)) (hlt:∀ q∈r,q.1<bx.length) :
 evW code lib 84 [.ptr b 0,.flat (.int .u8 c.toNat)] bx (.cell b 1::cl r)=some ([.flat .nilIface],false,bx.set b (e,bld true b (l++[c]) rest),.cell b 1::cl r):=by
 refine evW_eq code_strings_Builder_WriteByte (Nat.le_of_ble_eq_true rfl) ?_
 have hblt:b<bx.length:=(List.getElem?_eq_some_iff.1 hb).1
 have hcc:=fun oc=>cc_ev (oc:=oc) HB hb hl
 obtain ⟨bx1,h1⟩:∃ bx1,bx.set b (e,bld true b l rest)=bx1:=⟨_,rfl⟩
 have hb1:bx1[b]? =some (e,.ptr b 0::.slc l.length (bcells l)::rest):=by rw [← h1,List.getElem?_set_self hblt];rfl
 have hl1:bx1.length=bx.length:=by rw [← h1,List.length_set]
 have hset:∀ q,bx1.set b q=bx.set b q:=fun q=>by rw [← h1,List.set_set]
 have hbc:[PV.flat (.int .u8 c.toNat)]=bcells [c]:=rfl
 rw [h1] at hcc
 simp only [go_sem,simprocAttr,hcc,cl_keep,cl_owns,cl_cells,cl_drop,cl_slots,cl_dropL r hr,cl_dropC r hr,cl_under r hlt,hb1,hl1,hblt,List.length_set,S_size,S_bcells,allU8_bcells,bcells_len,hs,hset,dropCs_nil]
 simp only [bld,List.length_append,hbc,bcells_app,List.length_cons,List.length_nil]
def shownN (n:Nat):Nat:=if (n<32∧n≠9∧n≠10)∨(127≤n∧n<160) then 65533 else n
theorem shown_ev (n:Nat):evW code lib 54 [.flat (.int .i32 n)] [] []=some ([.flat (.int .i32 (shownN n:Nat))],false,[],[]):=by
 refine evW_eq code_utf_shown (Nat.le_of_ble_eq_true rfl) ?_
 unfold shownN
 by_cases h1:n<32
 ·have h1':(n:Int)<32:=by omega
  by_cases h2:n=9
  ·subst h2;simp only [go_sem,simprocAttr]
  ·have h2':¬ (n:Int)=9:=by omega
   by_cases h3:n=10
   ·subst h3;simp only [go_sem,simprocAttr]
   ·have h3':¬ (n:Int)=10:=by omega
    rw [if_pos (.inl ⟨h1,h2,h3⟩)]
    simp only [go_sem,simprocAttr,h1',h2',h3',n65533]
 ·have h1':¬ (n:Int)<32:=by omega
  by_cases h4:127≤n
  ·have h4':(127:Int)≤n:=by omega
   by_cases h5:n<160
   ·have h5':(n:Int)<160:=by omega
    rw [if_pos (.inr ⟨h4,h5⟩)]
    simp only [go_sem,simprocAttr,h1',h4',h5',n65533]
   ·have h5':¬ (n:Int)<160:=by omega
    rw [if_neg (by omega)]
    simp only [go_sem,simprocAttr,h1',h4',h5']
  ·have h4':¬ (127:Int)≤n:=by omega
   rw [if_neg (by omega)]
   simp only [go_sem,simprocAttr,h1',h4']
theorem bytesU_len (n:Nat):(bytesU n).length≤4:=by
 unfold bytesU bytesN
 rw [List.length_map]
 generalize (if isN n=true then n else 65533)=m
 repeat' split
 all_goals simp
theorem shownN_lt {n:Nat} (h:n<8388608):shownN n<2147483648:=by unfold shownN;split<;>omega
structure CSt where
 at_:Nat
 u:Bool
 out:Str
def lineUp (l:Str) (q:Nat × Nat) (k:Nat):Bool:=decide (q.1=13∧l[k+q.2]? =some 10)
def stepC (l:Str) (a:CSt) (q:Nat × Nat):CSt × Bool :=
 if lineUp l q a.at_ then (⟨a.at_+q.2,a.u,a.out⟩,true) else (⟨a.at_+q.2,true,a.out++bytesU (shownN (if q.1=13 then 10 else q.1))⟩,true)
def bxC (l:Str) (a:CSt):Boxes:=[(9,[.flat (.string (S l))]),(59,bld a.u 1 a.out []),(3,[.flat (.int .i64 (a.at_:Nat))]),(9,[.flat (.string (S l))]),(0,[.lp 31 0 .ready [1,3,4] [.ptr 0 0,.ptr 1 0,.ptr 2 0]])]
theorem clean_round (HB:BldIn lib) (l:Str) (hl:l.length<1000000000) (a:CSt) (q:Nat × Nat) (ha:a.at_+q.2≤l.length) (ho:a.out.length+4≤bound) (h1:q.1<8388608) :
 evW code lib yldF [.yld 4,.flat (.int .i32 (q.1:Nat)),.flat (.int .i64 (q.2:Nat))] (bxC l a) [.cell 1 1]=some ([.flat (.bool true)],false,bxC l (stepC l a q).1,[.cell 1 1]):=by
 refine evW_round code_yld code_utf_Clean rfl rfl rfl ?_
 have w1:IntKind.i64.wrap ((a.at_:Int)+(q.2:Nat))=((a.at_+q.2:Nat):Int):=wrap64 (by omega)
 have sh:=fun n=>shown_ev (lib:=lib) n
 have sh10:evW code lib 54 [.flat (.int .i32 10)] [] []=some ([.flat (.int .i32 (shownN 10:Nat))],false,[],[]):=shown_ev 10
 have by_:=fun n (h:n<2147483648)=>bytes_ev (lib:=lib) n h
 have hl0:liesB 59 (2+([]:List PV).length):=liesB0
 have ws:∀ (m:Str),m.length≤4→evW code lib 47 [.ptr 1 0,.flat (.string (S m))] [(9,[.flat (.string (S l))]),(59,bld a.u 1 a.out []),(3,[.flat (.int .i64 ((a.at_+q.2:Nat):Int))]),(9,[.flat (.string (S l))]),(0,[.lp 31 0 .busy [1,3,4] [.ptr 0 0,.ptr 1 0,.ptr 2 0]])] [.cell 1 1] =
  some ([.flat (.int .i64 m.length),.flat .nilIface],false,[(9,[.flat (.string (S l))]),(59,bld true 1 (a.out++m) []),(3,[.flat (.int .i64 ((a.at_+q.2:Nat):Int))]),(9,[.flat (.string (S l))]),(0,[.lp 31 0 .busy [1,3,4] [.ptr 0 0,.ptr 1 0,.ptr 2 0]])],[.cell 1 1]):=fun m hm =>
  ws_ev HB (b:=1) (r:=[]) (rest:=[]) rfl hl0 (by omega) (fun q hq=>by cases hq) (fun q hq=>by cases hq)
 by_cases c1:q.1=13
 ·have c1':((q.1:Nat):Int)=13:=by omega
  have sb:=by_ (shownN 10) (shownN_lt (by omega))
  have wm:=ws _ (bytesU_len (shownN 10))
  by_cases c2:a.at_+q.2<l.length
  ·have c2':((a.at_+q.2:Nat):Int)<l.length:=by omega
   obtain ⟨c,hc⟩:∃ c,l[a.at_+q.2]? =some c:=⟨_,List.getElem?_eq_getElem c2⟩
   have z0:(0:Int)≤((a.at_+q.2:Nat):Int):=by omega
   by_cases c3:c=10
   ·subst c3
    have hu:lineUp l q a.at_=true:=by simp [lineUp,c1,hc]
    have c3':(((10:UInt8).toNat:Nat):Int)=10:=rfl
    simp only [h_utf_Clean_0,g_utf_Clean_0,bxC,stepC,hu,c1',c2',c3',z0,w1,hc,S_size,S_get,kByte_some,Int.toNat_natCast,go_sem,simprocAttr]
   ·have hu:lineUp l q a.at_=false:=by simp [lineUp,hc,c3]
    have c3':¬ ((c.toNat:Nat):Int)=10:=fun h=>by
     have h9:c.toNat=(10:UInt8).toNat:=by have:(10:UInt8).toNat=10:=rfl;omega
     exact c3 (UInt8.toNat_inj.1 h9)
    simp only [h_utf_Clean_0,g_utf_Clean_0,bxC,stepC,hu,c1,c1',c2',c3',z0,w1,hc,S_size,S_get,kByte_some,Int.toNat_natCast,sh10,sb,wm,go_sem,simprocAttr]
  ·have c2':¬ ((a.at_+q.2:Nat):Int)<l.length:=by omega
   have hn:l[a.at_+q.2]? =none:=List.getElem?_eq_none (by omega)
   have hu:lineUp l q a.at_=false:=by simp [lineUp,hn]
   simp only [h_utf_Clean_0,g_utf_Clean_0,bxC,stepC,hu,c1,c1',c2',w1,S_size,sh10,sb,wm,go_sem,simprocAttr]
 ·have c1':¬ ((q.1:Nat):Int)=13:=by omega
  have hu:lineUp l q a.at_=false:=by simp [lineUp,c1]
  have sb:=by_ (shownN q.1) (shownN_lt h1)
  have wm:=ws _ (bytesU_len (shownN q.1))
  simp only [h_utf_Clean_0,g_utf_Clean_0,bxC,stepC,hu,c1,c1',w1,sh,sb,wm,go_sem,simprocAttr]
theorem stepC_t (l:Str) (a:CSt) (q:Nat × Nat):(stepC l a q).2=true:=by unfold stepC;split<;>rfl
theorem stepC_at (l:Str) (a:CSt) (q:Nat × Nat):(stepC l a q).1.at_=a.at_+q.2:=by unfold stepC;split<;>rfl
theorem stepC_len (l:Str) (a:CSt) (q:Nat × Nat):(stepC l a q).1.out.length≤a.out.length+4:=by
 unfold stepC
 split
 ·dsimp only;omega
 ·have:=bytesU_len (shownN (if q.1=13 then 10 else q.1))
  dsimp only
  rw [List.length_append];omega
theorem bld_lows {u:Bool} {b nb:Nat} {l:Str} {rest:List PV} (h:b<nb) (hr:lows nb rest=true):lows nb (bld u b l rest)=true:=by
 cases u<;>simp [bld,lows,PV.low,bcells_low,hr,h]
def endC (l:Str):CSt:=(foldS (stepC l) ⟨0,false,[]⟩ (runesU l)).1
def cleanU (l:Str):Str:=(endC l).out
theorem clean_ev (HB:BldIn lib) (l:Str) (hl:l.length<1000000000):evW code lib 31 [.flat (.string (S l))] [] []=some ([.flat (.string (S (cleanU l)))],false,[],[]):=by
 refine evW_eq code_utf_Clean (Nat.le_of_ble_eq_true rfl) ?_
 have hrun:=all_run (lib:=lib) l (by unfold Sm;omega) (bxC l) (fun _=>[(1,1)]) (stepC l) (fun a k=>a.at_=k∧a.out.length≤4 * k) 4 3 5 (fun a _ _=>rfl) (fun a=>rfl) (fun a q hq=>by simp at hq;subst hq;decide)
  (fun a k q ha _ _ h1 _ _=>by
    have h2:=stepC_len l a q
    refine ⟨by rw [stepC_at,ha.1],by omega⟩)
  (fun a k q ha _ _ h1 h2 _=>by
    have h3:=clean_round HB l hl a q (by rw [ha.1];exact h1) (by unfold bound;omega) h2
    rw [stepC_t];exact h3) ⟨0,false,[]⟩ ⟨rfl,Nat.zero_le _⟩
 have hc:cl [(1,1)]=[.cell 1 1]:=rfl
 have he:(foldS (stepC l) ⟨0,false,[]⟩ (runesU l)).1=endC l:=rfl
 simp only [hc,he] at hrun
 have hrun2:evW code lib 102 [.yld 4,.ptr 3 0] [(9,[.flat (.string (S l))]),(59,[.flat (.pointer none),.slc 0 []]),(3,[.flat (.int .i64 0)]),(9,[.flat (.string (S l))]),(0,[.lp 31 0 .ready [1,3,4] [.ptr 0 0,.ptr 1 0,.ptr 2 0]])] [.cell 1 1]=some ([],false,bxC l (endC l),[.cell 1 1]):=hrun
 have e1:=all_ev (lib:=lib) l [(9,[.flat (.string (S l))]),(59,[.flat (.pointer none),.slc 0 []]),(3,[.flat (.int .i64 0)])] [(1,1)] (by simp)
 simp only [hc,go_sem,simprocAttr] at e1
 have e2:=all_ev0 (lib:=lib) l []
 simp only [go_sem,simprocAttr] at e2
 have e3:evW code lib 28 [.ptr 1 0] [(9,[.flat (.string (S l))]),(59,bld (endC l).u 1 (endC l).out []),(3,[.flat (.int .i64 ((endC l).at_:Nat))]),(9,[.flat (.string (S l))])] [.cell 1 1] =
  some ([.flat (.string (S (endC l).out))],false,[(9,[.flat (.string (S l))]),(59,bld (endC l).u 1 (endC l).out []),(3,[.flat (.int .i64 ((endC l).at_:Nat))]),(9,[.flat (.string (S l))])],dropL (.cell 1 1) [.cell 1 1]):=st_ev HB rfl (by simp)
 have b4:lows 4 (bld (endC l).u 1 (endC l).out [])=true:=bld_lows (by omega) rfl
 simp only [go_sem,simprocAttr,e1,e2,hrun2,bxC,e3,b4,cleanU]
end Nun
end
section
namespace Nun
open Go Go.RowKit Go.Proofs Go.Proofs.YtmpiobfdchlikaaGreatDoor
theorem b8 (n:Nat) (h:n<256):(UInt8.ofNat n).toNat=n:=by rw [UInt8.toNat_ofNat'];omega
theorem isN_le {n:Nat} (h:isN n=true):n≤1114111:=by simp only [isN,Bool.and_eq_true,decide_eq_true_eq] at h;exact h.1
theorem dec_of (n:Nat) (hi:isN n=true) (t:Str):decU ((bytesN n).map UInt8.ofNat++t)=(n,(bytesN n).length):=by
 have hle:=isN_le hi
 unfold bytesN
 by_cases h1:n<128
 ·simp only [h1,if_true,List.map_cons,List.map_nil,List.cons_append,List.nil_append,List.length_cons,List.length_nil]
  simp only [decU,b8 n (by omega)]
  rw [if_pos h1]
 ·by_cases h2:n<2048
  ·simp only [h1,h2,if_true,if_false,List.map_cons,List.map_nil,List.cons_append,List.nil_append,List.length_cons,List.length_nil]
   simp only [decU,b8 (192+n / 64) (by omega)]
   rw [if_neg (by omega),if_pos (by omega)]
   have hg:goU (UInt8.ofNat (128+n % 64)::t) (192+n / 64 - 192) 1=(n,true):=by
    simp only [goU,b8 (128+n % 64) (by omega)]
    rw [if_pos (by omega)];exact Prod.ext (by show _=n;omega) rfl
   unfold finU
   rw [hg,if_pos ⟨rfl,by dsimp only;omega,hi⟩]
  ·by_cases h3:n<65536
   ·simp only [h1,h2,h3,if_true,if_false,List.map_cons,List.map_nil,List.cons_append,List.nil_append,List.length_cons,List.length_nil]
    simp only [decU,b8 (224+n / 4096) (by omega)]
    rw [if_neg (by omega),if_neg (by omega),if_pos (by omega)]
    have hg:goU (UInt8.ofNat (128+n / 64 % 64)::UInt8.ofNat (128+n % 64)::t) (224+n / 4096 - 224) 2=(n,true):=by
     simp only [goU,b8 (128+n % 64) (by omega),b8 (128+n / 64 % 64) (by omega)]
     rw [if_pos (by omega),if_pos (by omega)];exact Prod.ext (by show _=n;omega) rfl
    unfold finU
    rw [hg,if_pos ⟨rfl,by dsimp only;omega,hi⟩]
   ·simp only [h1,h2,h3,if_false,List.map_cons,List.map_nil,List.cons_append,List.nil_append,List.length_cons,List.length_nil]
    simp only [decU,b8 (240+n / 262144) (by omega)]
    rw [if_neg (by omega),if_neg (by omega),if_neg (by omega),if_pos (by omega)]
    have hg:goU (UInt8.ofNat (128+n / 4096 % 64)::UInt8.ofNat (128+n / 64 % 64)::UInt8.ofNat (128+n % 64)::t) (240+n / 262144 - 240) 3=(n,true):=by
     simp only [goU,b8 (128+n % 64) (by omega),b8 (128+n / 64 % 64) (by omega),b8 (128+n / 4096 % 64) (by omega)]
     rw [if_pos (by omega),if_pos (by omega),if_pos (by omega)];exact Prod.ext (by show _=n;omega) rfl
    unfold finU
    rw [hg,if_pos ⟨rfl,by dsimp only;omega,hi⟩]
end Nun
end
section
namespace Nun
open Go Go.RowKit Go.Proofs Go.Proofs.YtmpiobfdchlikaaGreatDoor
variable {lib:Callee}
def cutU (c:UInt8):Str→List Str
 | []=>[[]]
 | x::l=>if x=c then []::cutU c l else (match cutU c l with | p::ps=>(x::p)::ps | []=>[[x]])
def at1 (c:UInt8):Str→Option Nat
 | []=>none
 | x::l=>if x=c then some 0 else (at1 c l).map (·+1)
theorem at1_lt {c:UInt8}:∀ {l:Str} {i:Nat},at1 c l=some i→i<l.length
 | [],i,h=>by cases h
 | x::l,i,h=>by
   simp only [at1] at h
   split at h
   ·cases h;simp
   ·obtain ⟨j,hj,rfl⟩:=Option.map_eq_some_iff.1 h
    have:=at1_lt hj
    simp;omega
theorem cutU_none {c:UInt8}:∀ {l:Str},at1 c l=none→cutU c l=[l]
 | [],h=>rfl
 | x::l,h=>by
   simp only [at1] at h
   split at h
   ·cases h
   ·rename_i hx
    have h':at1 c l=none:=by simpa using h
    simp only [cutU,if_neg hx,cutU_none h']
theorem cutU_some {c:UInt8}:∀ {l:Str} {i:Nat},at1 c l=some i→cutU c l=l.take i::cutU c (l.drop (i+1))
 | [],i,h=>by cases h
 | x::l,i,h=>by
   simp only [at1] at h
   split at h
   ·rename_i hx
    cases h
    simp only [cutU,if_pos hx,List.take_zero,List.drop_succ_cons,List.drop_zero]
   ·rename_i hx
    obtain ⟨j,hj,rfl⟩:=Option.map_eq_some_iff.1 h
    simp only [cutU,if_neg hx,cutU_some hj,List.take_succ_cons,List.drop_succ_cons]
def foldQ {α:Type} (c:UInt8) (step:α→Str→α × Bool):Nat→α→Str→α × Str
 | 0,a,r=>(a,r)
 | n+1,a,r=>match at1 c r with
   | none=>((step a r).1,r)
   | some i=>if (step a (r.take i)).2 then foldQ c step n (step a (r.take i)).1 (r.drop (i+1)) else ((step a (r.take i)).1,r)
theorem foldQ_fuel {α:Type} {c:UInt8} {step:α→Str→α × Bool}:∀ (n m:Nat) (a:α) (r:Str),r.length<n→r.length<m→foldQ c step n a r=foldQ c step m a r
 | 0,m,a,r,h,_=>by omega
 | n+1,0,a,r,_,h=>by omega
 | n+1,m+1,a,r,h1,h2=>by
   simp only [foldQ]
   cases hi:at1 c r with
   | none=>rfl
   | some i =>
     have:=at1_lt hi
     dsimp only
     rw [foldQ_fuel n m _ _ (by rw [List.length_drop];omega) (by rw [List.length_drop];omega)]
theorem foldQ_eq {α:Type} {c:UInt8} {step:α→Str→α × Bool}:∀ (n:Nat) (a:α) (r:Str),r.length<n→(foldQ c step n a r).1=(foldS step a (cutU c r)).1
 | 0,a,r,h=>by omega
 | n+1,a,r,h=>by
   simp only [foldQ]
   cases hi:at1 c r with
   | none =>
     rw [cutU_none hi]
     simp only [foldS]
     split<;>rfl
   | some i =>
     have:=at1_lt hi
     rw [cutU_some hi]
     simp only [foldS]
     split
     ·exact foldQ_eq n _ _ (by rw [List.length_drop];omega)
     ·rfl
def LibIdx (lib:Callee):Prop:=∀ (s:Str) (c:UInt8),s.length≤1000000000→lib 32 [.flat (.string (S s)),.flat (.int .u8 c.toNat)] [] []=some ([.flat (.int .i64 (match at1 c s with | some i=>(i:Int) | none=>-1))],false,[],[])
theorem idx_ev (H:LibIdx lib) (s:Str) (c:UInt8) (h:s.length≤1000000000):evW code lib 32 [.flat (.string (S s)),.flat (.int .u8 c.toNat)] [] []=some ([.flat (.int .i64 (match at1 c s with | some i=>(i:Int) | none=>-1))],false,[],[]) :=
 evW_lib (by decide) (by kernel_rfl) (H s c h)
theorem pieces_run {α:Type} (H:LibIdx lib) (c:UInt8) (BX:α→Str→Boxes) (oc:α→List (Nat × Nat)) (step:α→Str→α × Bool) (I:α→Str→Prop) (b p p2 nb:Nat)
 (hbox:∀ a r,I a r→(BX a r)[p]? =some (9,[.flat (.string (S r))])) (hbox2:∀ a r,I a r→(BX a r)[p2]? =some (5,[.flat (.int .u8 c.toNat)])) (hset:∀ a r r',(BX a r).set p (9,[.flat (.string (S r'))])=BX a r')
 (hp:∀ a r,(BX a r)[p]? =some (9,[.flat (.string (S r))])) (hlen:∀ a r,(BX a r).length=nb) (hoc:∀ a,∀ q∈oc a,q.1<nb) (hocp:∀ a,∀ q∈oc a,q≠(p,0)) (hI1:∀ a r,I a r→r.length≤1000000000)
 (hI:∀ a r i,I a r→at1 c r=some i→(step a (r.take i)).2=true→I (step a (r.take i)).1 (r.drop (i+1)))
 (hy:∀ a r x,I a r→evW code lib yldF [.yld b,.flat (.string (S x))] (BX a r) (cl (oc a))=some ([.flat (.bool (step a x).2)],false,BX (step a x).1 r,cl (oc (step a x).1))) (a:α) (r:Str) (ha:I a r) :
 evW code lib 182 [.yld b,.ptr p 0,.ptr p2 0] (BX a r) (cl (oc a))=some ([],false,BX (foldQ c step (r.length+1) a r).1 (foldQ c step (r.length+1) a r).2,cl (oc (foldQ c step (r.length+1) a r).1)):=by
 refine evW_eq code_octet_pieces_1 (Nat.le_of_ble_eq_true rfl) ?_
 have hl0:=hI1 a r ha
 have hloop:=loop_by (body:=evC (evW code lib) big b_octet_pieces_1_0) (live:=[0,1,2]) (nb:=nb) (fun q:α × Str=>(⟨[(0,.yld b),(1,.ptr p 0),(2,.ptr p2 0)],cl (oc q.1),[],BX q.1 q.2⟩:St)) (fun q=>I q.1 q.2) (fun q=>q.2.length)
  (fun q=>(.ret,⟨[],cl (oc (foldQ c step (q.2.length+1) q.1 q.2).1),[],BX (foldQ c step (q.2.length+1) q.1 q.2).1 (foldQ c step (q.2.length+1) q.1 q.2).2⟩)) (fun ⟨a,r⟩ ha=>?_) (n:=big) (a:=(a,r)) ha (by unfold big;dsimp only;omega)
 ·have h1:=hlen a r
  have h2:=hlen (foldQ c step (r.length+1) a r).1 (foldQ c step (r.length+1) a r).2
  simp only [go_sem,simprocAttr,cl_keep,cl_owns,cl_cells,cl_drop,trim_same h1,h1,cl_under _ (hoc _),hloop,h2,trim_same h2]
 ·dsimp only at ha ⊢
  have hb:=hbox a r ha
  have hb2:=hbox2 a r ha
  have h1:=hlen a r
  have hl:=hI1 a r ha
  have e1:=idx_ev H r c hl
  cases hi:at1 c r with
  | none =>
    left
    rw [hi] at e1
    have hyy:=hy a r r ha
    have h2:=hlen (step a r).1 r
    have hf:foldQ c step (r.length+1) a r=((step a r).1,r):=by simp only [foldQ,hi]
    rw [hf]
    refine ⟨.ret,⟨[],cl (oc (step a r).1),[],BX (step a r).1 r⟩,?_,by simp,rfl⟩
    simp only [on_octet_pieces_1_0,go_sem,simprocAttr,cl_keep,cl_owns,cl_cells,cl_drop,cl_slots,hb,hb2,e1,hyy,trim_same h1,h1,h2,dropCs_nil]
  | some i =>
    rw [hi] at e1
    have hlt:=at1_lt hi
    have hyy:=hy a r (r.take i) ha
    have h2:=hlen (step a (r.take i)).1 r
    have hf:foldQ c step (r.length+1) a r=if (step a (r.take i)).2 then foldQ c step ((r.drop (i+1)).length+1) (step a (r.take i)).1 (r.drop (i+1)) else ((step a (r.take i)).1,r):=by
     simp only [foldQ,hi]
     rw [foldQ_fuel r.length ((r.drop (i+1)).length+1) _ _ (by rw [List.length_drop];omega) (by omega)]
     simp only [foldQ]
    have c0:¬ (i:Int)<0:=by omega
    have c1:(0:Int)≤(i:Nat):=by omega
    have c2:(i:Int)≤r.length:=by omega
    have w1:IntKind.i64.wrap ((i:Int)+1)=((i+1:Nat):Int):=wrap64 (by omega)
    have c3:(0:Int)≤((i+1:Nat):Int):=by omega
    have c4:((i+1:Nat):Int)≤r.length:=by omega
    have tk:(r.take r.length).drop (i+1)=r.drop (i+1):=by rw [List.take_length]
    have hb3:=hp (step a (r.take i)).1 r
    by_cases hst:(step a (r.take i)).2=true
    ·right
     rw [hst] at hyy hf
     have h3:=hlen (step a (r.take i)).1 (r.drop (i+1))
     refine ⟨⟨[(0,.yld b),(1,.ptr p 0),(2,.ptr p2 0)],cl (oc (step a (r.take i)).1),[],BX (step a (r.take i)).1 (r.drop (i+1))⟩,((step a (r.take i)).1,r.drop (i+1)),?_,?_,hI a r i ha hi hst,by rw [List.length_drop];omega,?_⟩
     ·simp only [on_octet_pieces_1_0,go_sem,simprocAttr,cl_keep,cl_owns,cl_cells,cl_drop,cl_slots,cl_dropC _ (hocp _),hb,hb2,hb3,e1,hyy,c0,c1,c2,c3,c4,w1,S_size,S_ext,tk,hset,Int.toNat_natCast,trim_same h1,h1,h2,h3,dropCs_nil]
     ·simp only [go_sem,simprocAttr,cl_keep,cl_owns,trim_same h3,h3,cl_under _ (hoc _)]
     ·simp only [hf,if_true]
    ·left
     have hst:(step a (r.take i)).2=false:=by simpa using hst
     rw [hst] at hyy hf
     refine ⟨.ret,⟨[],cl (oc (step a (r.take i)).1),[],BX (step a (r.take i)).1 r⟩,?_,by simp,?_⟩
     ·simp only [on_octet_pieces_1_0,go_sem,simprocAttr,cl_keep,cl_owns,cl_cells,cl_drop,cl_slots,hb,hb2,e1,hyy,c0,c1,c2,S_size,S_ext,Int.toNat_natCast,trim_same h1,h1,h2,dropCs_nil]
     ·simp only [hf,Bool.false_eq_true,if_false]
def scells (l:List Str):List PV:=l.map fun x=>.flat (.string (S x))
theorem scells_len {l:List Str}:(scells l).length=l.length:=by simp [scells]
theorem scells_app {a b:List Str}:scells a++scells b=scells (a++b):=by simp [scells]
theorem scells_noU8:∀ a:List Str,noU8 (scells a)=true
 | []=>rfl
 | c::a=>by show noU8 (.flat (.string (S c))::scells a)=true;rw [noU8_cons,scells_noU8 a];rfl
theorem scells_low {n:Nat}:∀ a:List Str,lows n (scells a)=true
 | []=>rfl
 | c::a=>by show lows n (.flat (.string (S c))::scells a)=true;simp only [lows,PV.low,scells_low a,Bool.true_and]
def bxP (c:UInt8) (out:List Str) (r:Str):Boxes:=[(39,[.slc out.length (scells out)]),(9,[.flat (.string (S r))]),(5,[.flat (.int .u8 c.toNat)]),(0,[.lp 81 0 .ready [5] [.ptr 0 0]])]
def stepP1 (out:List Str) (x:Str):List Str × Bool:=(out++[x],true)
theorem foldP1:∀ (L out:List Str),foldS stepP1 out L=(out++L,true)
 | [],out=>by simp [foldS]
 | q::L,out=>by simp only [foldS,stepP1,if_true];rw [foldP1 L];simp
theorem cut_round (c:UInt8) (out:List Str) (r x:Str) (ho:out.length<4294967296):evW code lib yldF [.yld 3,.flat (.string (S x))] (bxP c out r) [.cell 0 0]=some ([.flat (.bool true)],false,bxP c (out++[x]) r,[.cell 0 0]):=by
 refine evW_round code_yld code_octet_Cut rfl rfl rfl ?_
 have hb:out.length+1≤bound:=by unfold bound;omega
 have h1:[PV.flat (.string (S x))]=scells [x]:=rfl
 simp only [h_octet_Cut_0,g_octet_Cut_0,bxP,go_sem,simprocAttr,scells_len,scells_noU8,hb]
 simp only [h1,scells_app,List.length_append,List.length_cons,List.length_nil]
theorem cut_ev (H:LibIdx lib) (s:Str) (c:UInt8) (hs:s.length≤1000000000):evW code lib 81 [.flat (.string (S s)),.flat (.int .u8 c.toNat)] [] []=some ([.slc (cutU c s).length (scells (cutU c s))],false,[],[]):=by
 refine evW_eq code_octet_Cut (Nat.le_of_ble_eq_true rfl) ?_
 have hrun:=pieces_run (lib:=lib) H c (bxP c) (fun _=>[(0,0)]) stepP1 (fun out r=>out.length+r.length≤1000000000) 3 1 2 4 (fun _ _ _=>rfl) (fun _ _ _=>rfl) (fun _ _ _=>rfl) (fun _ _=>rfl) (fun _ _=>rfl) (fun a q hq=>by simp at hq;subst hq;decide) (fun a q hq=>by simp at hq;subst hq;decide) (fun a r h=>by omega)
  (fun a r i h hi _=>by
    have:=at1_lt hi
    simp only [stepP1,List.length_append,List.length_cons,List.length_nil,List.length_drop];omega)
  (fun a r x h=>cut_round c a r x (by omega)) [] s (by simpa using hs)
 have hfe:=foldQ_eq (c:=c) (step:=stepP1) (s.length+1) [] s (by omega)
 rw [foldP1] at hfe
 simp only [List.nil_append] at hfe
 obtain ⟨re,hre⟩:∃ re,(foldQ c stepP1 (s.length+1) [] s).2=re:=⟨_,rfl⟩
 have hc:cl [(0,0)]=[.cell 0 0]:=rfl
 rw [hfe,hre] at hrun
 simp only [hc] at hrun
 have hrun2:evW code lib 182 [.yld 3,.ptr 1 0,.ptr 2 0] [(39,[.slc 0 []]),(9,[.flat (.string (S s))]),(5,[.flat (.int .u8 c.toNat)]),(0,[.lp 81 0 .ready [5] [.ptr 0 0]])] [.cell 0 0]=some ([],false,bxP c (cutU c s) re,[.cell 0 0]):=hrun
 have e1:evW code lib 137 [.flat (.string (S s)),.flat (.int .u8 c.toNat)] [(39,[.slc 0 []])] [.cell 0 0]=some ([.clo 182 [.ptr 1 0,.ptr 2 0]],false,[(39,[.slc 0 []]),(9,[.flat (.string (S s))]),(5,[.flat (.int .u8 c.toNat)])],[.cell 0 0]):=by
  refine evW_eq code_octet_pieces (Nat.le_of_ble_eq_true rfl) ?_
  simp only [go_sem,simprocAttr]
 have e2:evW code lib 137 [.flat (.string (S s)),.flat (.int .u8 c.toNat)] [] []=some ([.clo 182 [.ptr 0 0,.ptr 1 0]],false,[(9,[.flat (.string (S s))]),(5,[.flat (.int .u8 c.toNat)])],[]):=by
  refine evW_eq code_octet_pieces (Nat.le_of_ble_eq_true rfl) ?_
  simp only [go_sem,simprocAttr]
 simp only [go_sem,simprocAttr,e1,e2,hrun2,bxP,scells_low]
def LibPre (lib:Callee):Prop:=∀ s p:Str,s.length≤1000000000→p.length≤1000000000→lib 74 [.flat (.string (S s)),.flat (.string (S p))] [] []=some ([.flat (.bool (p.isPrefixOf s))],false,[],[])
theorem pre_ev (H:LibPre lib) (s p:Str) (h:s.length≤1000000000) (h2:p.length≤1000000000):evW code lib 74 [.flat (.string (S s)),.flat (.string (S p))] [] []=some ([.flat (.bool (p.isPrefixOf s))],false,[],[]) :=
 evW_lib (by decide) (by kernel_rfl) (H s p h h2)
def beginsU (s w:Str) (k:Nat):Bool:=decide (k≤s.length) && w.isPrefixOf (s.drop k)
theorem begins_ev (H:LibPre lib) (s w:Str) (k:Nat) (hs:s.length≤1000000000) (hw:w.length≤1000000000):evW code lib 134 [.flat (.string (S s)),.flat (.string (S w)),.flat (.int .i64 (k:Nat))] [] []=some ([.flat (.bool (beginsU s w k))],false,[],[]):=by
 refine evW_eq code_octet_Begins (Nat.le_of_ble_eq_true rfl) ?_
 have c0:(0:Int)≤(k:Nat):=by omega
 by_cases h:k≤s.length
 ·have c1:(k:Int)≤s.length:=by omega
  have e1:=pre_ev H (s.drop k) w (by rw [List.length_drop];omega) hw
  have tk:(s.take s.length).drop k=s.drop k:=by rw [List.take_length]
  simp only [go_sem,simprocAttr,beginsU,c0,c1,h,S_size,S_ext,tk,e1,Int.toNat_natCast]
 ·have c1:¬ (k:Int)≤s.length:=by omega
  simp only [go_sem,simprocAttr,beginsU,c0,c1,h,S_size]
def nameB (c:UInt8):Bool:=!((decide ((c.toNat ||| 32)<97) || decide (122<(c.toNat ||| 32))) && ((decide (c.toNat<48) || decide (57<c.toNat)) && !decide (c.toNat=45)))
def headN (s:Str) (k:Nat):St:=⟨[(0,.flat (.string (S s))),(6,.flat (.int .i64 (s.length:Nat))),(7,.flat (.int .i64 (k:Nat)))],[],[],[]⟩
theorem name_round (s:Str) (k:Nat) (c:UInt8) (hk:k<s.length) (hs:s.length≤1000000000) (hc:s[k]? =some c):evC (evW code lib) big b_fold_name_0 (headN s k)=if nameB c then some (.normal,headN s (k+1)) else some (.ret,⟨[(2,.flat (.bool false))],[],[],[]⟩):=by
 have c1:(k:Int)<s.length:=by omega
 have c2:(0:Int)≤(k:Nat):=by omega
 have w1:IntKind.i64.wrap ((k:Int)+1)=((k+1:Nat):Int):=wrap64 (by omega)
 have hcb:=c.toNat_lt
 have o1:bitor .u8 (c.toNat:Int) 32=((c.toNat ||| 32:Nat):Int):=u8_or c.toNat 32 (by omega) (by omega)
 obtain ⟨m,hm⟩:∃ m,c.toNat ||| 32=m:=⟨_,rfl⟩
 obtain ⟨n,hn⟩:∃ n,c.toNat=n:=⟨_,rfl⟩
 unfold nameB
 rw [hm] at o1 ⊢
 rw [hn] at o1 ⊢
 have d1:((m:Int)<97)=(m<97):=by apply propext;omega
 have d2:((122:Int)<m)=(122<m):=by apply propext;omega
 have d3:((n:Int)<48)=(n<48):=by apply propext;omega
 have d4:((57:Int)<n)=(57<n):=by apply propext;omega
 have d5:((n:Int)=45)=(n=45):=by apply propext;omega
 by_cases a1:m<97<;>by_cases a2:122<m<;>by_cases a3:n<48<;>by_cases a4:57<n<;>by_cases a5:(n=45)=True
 all_goals first
  | (exfalso;omega)
  | skip
 all_goals
  first
   | (simp only [on_fold_name_0,headN,go_sem,simprocAttr,c1,c2,S_get,Int.toNat_natCast,hc,kByte_some,hn,o1,d1,d2,d3,d4,d5,a1,a2,a3,a4,a5,w1,Bool.true_or,Bool.or_true,Bool.false_or,Bool.or_false];done)
   | (have a6:¬ n=45:=fun h=>a5 (eq_true h)
      simp only [on_fold_name_0,headN,go_sem,simprocAttr,c1,c2,S_get,Int.toNat_natCast,hc,kByte_some,hn,o1,d1,d2,d3,d4,d5,a1,a2,a3,a4,a6,w1,Bool.true_or,Bool.or_true,Bool.false_or,Bool.or_false])
def nameU (s:Str):Bool:=s.all nameB && (!decide (s=[]) && decide (s.length≤32))
theorem name_ev (s:Str) (hs:s.length≤1000000000):evW code lib 80 [.flat (.string (S s))] [] []=some ([.flat (.bool (nameU s))],false,[],[]):=by
 refine evW_eq code_fold_name (Nat.le_of_ble_eq_true rfl) ?_
 have hloop:=loop_by (body:=evC (evW code lib) big b_fold_name_0) (live:=[0,6,7]) (nb:=0) (headN s) (fun k=>k≤s.length) (fun k=>s.length - k)
  (fun k=>if (s.drop k).all nameB then (.exit 0,⟨[(0,.flat (.string (S s)))],[],[],[]⟩) else (.ret,⟨[(2,.flat (.bool false))],[],[],[]⟩)) (fun k hk=>?_) (n:=big) (a:=0) (Nat.zero_le _) (by unfold big;omega)
 ·simp only [headN,List.drop_zero,n0] at hloop
  have he:(⟨#[]⟩:ByteArray)=S []:=rfl
  cases hi:s.all nameB with
  | true =>
    simp only [hi,if_true] at hloop
    by_cases h1:s=[]
    ·have h1':(s=[])=True:=eq_true h1
     simp only [go_sem,simprocAttr,S_size,hloop,he,S_eqB,nameU,hi,h1']
    ·by_cases h2:s.length≤32
     ·have h2':(s.length:Int)≤32:=by omega
      simp only [go_sem,simprocAttr,S_size,hloop,he,S_eqB,nameU,hi,h1,h2,h2']
     ·have h2':¬ (s.length:Int)≤32:=by omega
      simp only [go_sem,simprocAttr,S_size,hloop,he,S_eqB,nameU,hi,h1,h2,h2']
  | false =>
    simp only [hi,Bool.false_eq_true,if_false] at hloop
    simp only [go_sem,simprocAttr,S_size,hloop,nameU,hi]
 ·by_cases hlt:k<s.length
  ·have hc:s[k]? =some s[k]:=List.getElem?_eq_getElem hlt
   have hd:s.drop k=s[k]::s.drop (k+1):=List.drop_eq_getElem_cons hlt
   have hr:=name_round (lib:=lib) s k s[k] hlt hs hc
   cases hb:nameB s[k] with
   | true =>
     right
     rw [hb,if_pos rfl] at hr
     exact ⟨headN s (k+1),k+1,hr,by simp only [headN,go_sem,simprocAttr],hlt,by omega,by rw [hd,List.all_cons,hb,Bool.true_and]⟩
   | false =>
     left
     rw [hb] at hr
     exact ⟨.ret,_,hr,by simp,by rw [hd,List.all_cons,hb];rfl⟩
  ·left
   obtain rfl:k=s.length:=by omega
   have c1:¬ (s.length:Int)<s.length:=by omega
   refine ⟨.exit 0,⟨[(0,.flat (.string (S s)))],[],[],[]⟩,?_,by simp,by rw [List.drop_length];rfl⟩
   simp only [on_fold_name_0,headN,go_sem,simprocAttr,c1]
def longer (w:Str) (long:Nat):Bool:=decide (76≤w.length+long)
def putT (l w:Str) (long:Nat):Str:=(if longer w long then l++[13,10] else l)++(32::w)
def putL (w:Str) (long:Nat):Nat:=(if longer w long then 0 else long)+(1+w.length)
theorem put_ev (HB:BldIn lib) {bx:Boxes} {r:List (Nat × Nat)} {b e:Nat} {u:Bool} {l w:Str} {long:Nat} (hb:bx[b]? =some (e,bld u b l [.flat (.int .i64 (long:Nat))])) (hl:liesB e 3) (hs:l.length+w.length≤1000000000) (hlo:long≤1000000000) (hr:∀ q∈r,q≠(b,1)) (hr2:∀ q∈r,q≠(b,2)) (hlt:∀ q∈r,q.1<bx.length) :
 evW code lib 94 [.ptr b 0,.flat (.string (S w))] bx (.cell b 1::cl r)=some ([],false,bx.set b (e,bld true b (putT l w long) [.flat (.int .i64 (putL w long:Nat))]),.cell b 1::cl r):=by
 refine evW_eq code_fold_lines_put (Nat.le_of_ble_eq_true rfl) ?_
 have hblt:b<bx.length:=(List.getElem?_eq_some_iff.1 hb).1
 have hbc:∃ p0,bx[b]? =some (e,p0::.slc l.length (bcells l)::[.flat (.int .i64 (long:Nat))])∧(p0=.ptr b 0∨p0=.flat (.pointer none)):=by
  cases u
  ·exact ⟨_,hb,.inr rfl⟩
  ·exact ⟨_,hb,.inl rfl⟩
 obtain ⟨p0,hb0,hp0⟩:=hbc
 have w1:IntKind.i64.wrap (76 - (long:Int))=76 - (long:Int):=wrap64 (by omega)
 have w2:IntKind.i64.wrap (1+(w.length:Int))=((1+w.length:Nat):Int):=by rw [wrap64 (by omega)];rfl
 have w3:IntKind.i64.wrap ((long:Int)+((1+w.length:Nat):Int))=((long+(1+w.length):Nat):Int):=wrap64 (by omega)
 have w4:IntKind.i64.wrap (0+((1+w.length:Nat):Int))=((0+(1+w.length):Nat):Int):=wrap64 (by omega)
 have hcr:(⟨#[13,10]⟩:ByteArray)=S [13,10]:=rfl
 have hsp:(⟨#[32]⟩:ByteArray)=S [32]:=rfl
 have hsz:1+w.length≤bound:=by unfold bound;omega
 by_cases h:76≤w.length+long
 ·have h':76 - (long:Int)≤w.length:=by omega
  have hlg:longer w long=true:=by simp [longer,h]
  have ws1:=ws_ev (lib:=lib) (r:=r) (m:=[13,10]) HB hb hl (by simp;unfold bound;omega) hr hlt
  obtain ⟨bx1,h1⟩:∃ bx1,bx.set b (e,bld true b (l++[13,10]) [.flat (.int .i64 (long:Nat))])=bx1:=⟨_,rfl⟩
  have hb1:bx1[b]? =some (e,.ptr b 0::.slc (l++[13,10]).length (bcells (l++[13,10]))::[.flat (.int .i64 (long:Nat))]):=by rw [← h1,List.getElem?_set_self hblt];rfl
  have hl1:bx1.length=bx.length:=by rw [← h1,List.length_set]
  obtain ⟨bx2,h2⟩:∃ bx2,bx1.set b (e,.ptr b 0::.slc (l++[13,10]).length (bcells (l++[13,10]))::[.flat (.int .i64 0)])=bx2:=⟨_,rfl⟩
  have hb2:bx2[b]? =some (e,bld true b (l++[13,10]) [.flat (.int .i64 0)]):=by rw [← h2,List.getElem?_set_self (by omega)];rfl
  have hl2:bx2.length=bx.length:=by rw [← h2,List.length_set,hl1]
  have ws2:=ws_ev (lib:=lib) (r:=r) (m:=32::w) HB hb2 hl (by simp;unfold bound;omega) hr (by rw [hl2];exact hlt)
  obtain ⟨bx3,h3⟩:∃ bx3,bx2.set b (e,bld true b (l++[13,10]++(32::w)) [.flat (.int .i64 0)])=bx3:=⟨_,rfl⟩
  have hb3:bx3[b]? =some (e,.ptr b 0::.slc (l++[13,10]++(32::w)).length (bcells (l++[13,10]++(32::w)))::[.flat (.int .i64 0)]):=by rw [← h3,List.getElem?_set_self (by omega)];rfl
  have hl3:bx3.length=bx.length:=by rw [← h3,List.length_set,hl2]
  have hset:∀ q,bx3.set b q=bx.set b q:=fun q=>by rw [← h3,← h2,← h1,List.set_set,List.set_set,List.set_set]
  rw [h1] at ws1
  rw [h3] at ws2
  have hfin:putT l w long=l++[13,10]++(32::w):=by simp only [putT,hlg,if_true]
  have hfl:putL w long=0+(1+w.length):=by simp only [putL,hlg,if_true]
  rw [hfin,hfl]
  rcases hp0 with rfl | rfl<;>simp only [go_sem,simprocAttr,hb0,hb1,hb2,hb3,h2,ws1,ws2,h',w1,w2,w4,hcr,hsp,hsz,S_size,S_app,cl_keep,cl_owns,cl_cells,cl_drop,cl_slots,cl_dropL r hr,cl_dropC r hr,cl_dropC r hr2,cl_under r hlt,hl1,hl2,hl3,hblt,List.length_set,hset,dropCs_nil]
  all_goals (try rfl)
 ·have h':¬ 76 - (long:Int)≤w.length:=by omega
  have hlg:longer w long=false:=by simp [longer,h]
  have ws2:=ws_ev (lib:=lib) (r:=r) (m:=32::w) HB hb hl (by simp;unfold bound;omega) hr hlt
  obtain ⟨bx3,h3⟩:∃ bx3,bx.set b (e,bld true b (l++(32::w)) [.flat (.int .i64 (long:Nat))])=bx3:=⟨_,rfl⟩
  have hb3:bx3[b]? =some (e,.ptr b 0::.slc (l++(32::w)).length (bcells (l++(32::w)))::[.flat (.int .i64 (long:Nat))]):=by rw [← h3,List.getElem?_set_self (by omega)];rfl
  have hl3:bx3.length=bx.length:=by rw [← h3,List.length_set]
  have hset:∀ q,bx3.set b q=bx.set b q:=fun q=>by rw [← h3,List.set_set]
  rw [h3] at ws2
  have hfin:putT l w long=l++(32::w):=by simp only [putT,hlg,Bool.false_eq_true,if_false]
  have hfl:putL w long=long+(1+w.length):=by simp only [putL,hlg,Bool.false_eq_true,if_false]
  rw [hfin,hfl]
  rcases hp0 with rfl | rfl<;>simp only [go_sem,simprocAttr,hb0,hb3,ws2,h',w1,w2,w3,hsp,hsz,S_size,S_app,cl_keep,cl_owns,cl_cells,cl_drop,cl_slots,cl_dropL r hr,cl_dropC r hr,cl_dropC r hr2,cl_under r hlt,hl3,hblt,List.length_set,hset,dropCs_nil]
  all_goals (try rfl)
theorem liesL:liesB 144 3:=by unfold liesB;kernel_rfl
def stopP (s:Str) (k:Nat) (c:UInt8) (long:Nat):Bool:=(decide (c.toNat=32) && decide (long=0)) || (decide (c.toNat<32) || (decide (126<c.toNat) || beginsU s [61,63] k))
def nextP (c:UInt8) (long:Nat):Nat:=if c.toNat=32 then 0 else long+1
def headP (s:Str) (q:Nat × Nat):St:=⟨[(0,.flat (.string (S s))),(3,.flat (.int .i64 (q.2:Nat))),(9,.flat (.int .i64 (s.length:Nat))),(10,.flat (.int .i64 (q.1:Nat)))],[],[],[]⟩
theorem plain_round (H:LibPre lib) (s:Str) (k long:Nat) (c:UInt8) (hk:k<s.length) (hs:s.length≤1000000000) (hl:long≤60) (hc:s[k]? =some c) :
 evC (evW code lib) big b_fold_Plain_0 (headP s (k,long))=if stopP s k c long || decide (60<nextP c long) then some (.ret,⟨[(2,.flat (.bool false))],[],[],[]⟩) else some (.normal,headP s (k+1,nextP c long)):=by
 have c1:(k:Int)<s.length:=by omega
 have c2:(0:Int)≤(k:Nat):=by omega
 have w1:IntKind.i64.wrap ((k:Int)+1)=((k+1:Nat):Int):=wrap64 (by omega)
 have w2:IntKind.i64.wrap ((long:Int)+1)=((long+1:Nat):Int):=wrap64 (by omega)
 have hq:(⟨#[61,63]⟩:ByteArray)=S [61,63]:=rfl
 have hb:=begins_ev (lib:=lib) H s [61,63] k hs (by simp)
 obtain ⟨n,hn⟩:∃ n,c.toNat=n:=⟨_,rfl⟩
 obtain ⟨bg,hbg⟩:∃ bg,beginsU s [61,63] k=bg:=⟨_,rfl⟩
 unfold stopP nextP
 rw [hbg] at hb ⊢
 rw [hn]
 have d1:((n:Int)=32)=(n=32):=by apply propext;omega
 have d2:((n:Int)<32)=(n<32):=by apply propext;omega
 have d3:((126:Int)<n)=(126<n):=by apply propext;omega
 have d4:((long:Int)=0)=(long=0):=by apply propext;omega
 have d5:((60:Int)<((long+1:Nat):Int))=(60<long+1):=by apply propext;omega
 have t1:¬ (n=32)→(n=32)=False:=eq_false
 rcases Classical.em (n=32) with a1 | a1<;>rcases Classical.em (n<32) with a2 | a2<;>rcases Classical.em (126<n) with a3 | a3<;>rcases Classical.em (long=0) with a4 | a4<;>rcases Classical.em (60<long+1) with a5 | a5<;>cases bg
 all_goals first
  | (exfalso;omega)
  | skip
 all_goals
  first | have e1:=eq_false a1 | have e1:=eq_true a1
  first | have e2:=eq_false a2 | have e2:=eq_true a2
  first | have e3:=eq_false a3 | have e3:=eq_true a3
  first | have e4:=eq_false a4 | have e4:=eq_true a4
  first | have e5:=eq_false a5 | have e5:=eq_true a5
  clear a1 a2 a3 a4 a5
  simp only [on_fold_Plain_0,headP,go_sem,simprocAttr,c1,c2,S_get,Int.toNat_natCast,hc,kByte_some,hn,d1,d2,d3,d4,d5,e1,e2,e3,e4,e5,w1,w2,hq,hb,n0,Bool.true_or,Bool.or_true,Bool.false_or,Bool.or_false]
def goP (s:Str) (k long:Nat):Str→Option Nat
 | []=>some long
 | c::t=>if stopP s k c long || decide (60<nextP c long) then none else goP s (k+1) (nextP c long) t
def plainU (s:Str):Bool:=decide (s=[]) || (match goP s 0 0 s with | none=>false | some n=>decide (0<n))
theorem plain_ev (H:LibPre lib) (s:Str) (hs:s.length≤1000000000):evW code lib 148 [.flat (.string (S s))] [] []=some ([.flat (.bool (plainU s))],false,[],[]):=by
 refine evW_eq code_fold_Plain (Nat.le_of_ble_eq_true rfl) ?_
 have he:(⟨#[]⟩:ByteArray)=S []:=rfl
 by_cases h0:s=[]
 ·subst h0
  simp only [go_sem,simprocAttr,he,S_eqB,plainU,decide_true,Bool.true_or]
 have hloop:=loop_by (body:=evC (evW code lib) big b_fold_Plain_0) (live:=[0,3,9,10]) (nb:=0) (headP s) (fun q=>q.1≤s.length∧q.2≤60) (fun q=>s.length - q.1)
  (fun q=>match goP s q.1 q.2 (s.drop q.1) with | some n=>(.exit 0,⟨[(3,.flat (.int .i64 (n:Nat)))],[],[],[]⟩) | none=>(.ret,⟨[(2,.flat (.bool false))],[],[],[]⟩)) (fun q hq=>?_) (n:=big) (a:=(0,0)) ⟨Nat.zero_le _,Nat.zero_le _⟩ (by unfold big;simp;omega)
 ·simp only [headP,List.drop_zero,n0] at hloop
  have h0':(s=[])=False:=eq_false h0
  simp only [plainU,h0',decide_false,Bool.false_or]
  cases hg:goP s 0 0 s with
  | none =>
    simp only [hg] at hloop
    simp only [go_sem,simprocAttr,S_size,hloop,he,S_eqB,h0']
  | some n =>
    simp only [hg] at hloop
    have d:((0:Int)<(n:Nat))=(0<n):=by apply propext;omega
    simp only [go_sem,simprocAttr,S_size,hloop,he,S_eqB,h0',d]
 ·obtain ⟨k,long⟩:=q
  obtain ⟨hk,hl⟩:=hq
  simp only at hk hl
  by_cases hlt:k<s.length
  ·have hc:s[k]? =some s[k]:=List.getElem?_eq_getElem hlt
   have hd:s.drop k=s[k]::s.drop (k+1):=List.drop_eq_getElem_cons hlt
   have hr:=plain_round H s k long s[k] hlt hs hl hc
   cases hb:stopP s k s[k] long || decide (60<nextP s[k] long) with
   | false =>
     right
     rw [hb] at hr
     have hn:nextP s[k] long≤60:=by simp only [Bool.or_eq_false_iff,decide_eq_false_iff_not] at hb;omega
     exact ⟨headP s (k+1,nextP s[k] long),(k+1,nextP s[k] long),hr,by simp only [headP,go_sem,simprocAttr],⟨hlt,hn⟩,by simp only;omega,by simp only [hd,goP,hb,Bool.false_eq_true,if_false]⟩
   | true =>
     left
     rw [hb] at hr
     exact ⟨.ret,_,hr,by simp,by simp only [hd,goP,hb,if_true]⟩
  ·left
   obtain rfl:k=s.length:=by omega
   have c1:¬ (s.length:Int)<s.length:=by omega
   refine ⟨.exit 0,⟨[(3,.flat (.int .i64 (long:Nat)))],[],[],[]⟩,?_,by simp,by simp only [List.drop_length,goP]⟩
   simp only [on_fold_Plain_0,headP,go_sem,simprocAttr,c1]
end Nun
end
section
namespace Nun
open Go Go.RowKit Go.Proofs Go.Proofs.YtmpiobfdchlikaaGreatDoor
variable {lib:Callee}
def LibB64 (lib:Callee) (enc:Str→Str):Prop:=∀ s:Str,s.length≤100→(enc s).length≤136∧lib 150 [.flat (.string (S s))] [] []=some ([.flat (.string (S (enc s)))],false,[],[])
theorem b64_ev {enc:Str→Str} (H:LibB64 lib enc) (s:Str) (h:s.length≤100):evW code lib 150 [.flat (.string (S s))] [] []=some ([.flat (.string (S (enc s)))],false,[],[]) :=
 evW_lib (by decide) (by kernel_rfl) (H s h).2
def frontU:Str:=[61,63,85,84,70,45,56,63,66,63]
def codedU (enc:Str→Str) (g:Str):Str:=frontU++enc g++[63,61]
def groupsU (enc:Str→Str):Str→List Nat→List Str
 | now,[]=>[codedU enc now]
 | now,r::l=>if 45<now.length+(bytesU r).length then codedU enc now::groupsU enc (bytesU r) l else groupsU enc (now++bytesU r) l
def wordsU (enc:Str→Str) (s:Str):List Str:=if s=[] then [] else if plainU s then cutU 32 s else groupsU enc [] (numsU s)
theorem codedU_len {enc:Str→Str} (H:LibB64 lib enc) {g:Str} (h:g.length≤100):(codedU enc g).length≤200:=by
 have:=(H g h).1
 simp only [codedU,frontU,List.length_append,List.length_cons,List.length_nil];omega
theorem groupsU_len (enc:Str→Str):∀ (l:List Nat) (now:Str),(groupsU enc now l).length≤l.length+1
 | [],now=>by simp [groupsU]
 | r::l,now=>by
   simp only [groupsU]
   split
   ·have:=groupsU_len enc l (bytesU r);simp only [List.length_cons];omega
   ·have:=groupsU_len enc l (now++bytesU r);simp only [List.length_cons];omega
theorem cutU_len (c:UInt8):∀ s:Str,(cutU c s).length≤s.length+1
 | []=>by simp [cutU]
 | x::l=>by
   have:=cutU_len c l
   simp only [cutU]
   split
   ·simp only [List.length_cons];omega
   ·split
    ·rename_i h;rw [h] at this;simp only [List.length_cons] at this ⊢;omega
    ·simp only [List.length_cons,List.length_nil];omega
theorem cutU_mem (c:UInt8):∀ (s x:Str),x∈cutU c s→x.length≤s.length
 | [],x,h=>by simp [cutU] at h;simp [h]
 | y::l,x,h=>by
   have:=cutU_mem c l
   simp only [cutU] at h
   split at h
   ·rcases List.mem_cons.1 h with rfl | h
    ·simp
    ·have:=this x h;simp only [List.length_cons];omega
   ·split at h
    ·rename_i p ps hp
     rcases List.mem_cons.1 h with rfl | h
     ·have:=this p (by rw [hp];exact List.mem_cons_self);simp only [List.length_cons];omega
     ·have:=this x (by rw [hp];exact List.mem_cons_of_mem _ h);simp only [List.length_cons];omega
    ·simp at h;simp [h]
theorem runesU_len:∀ (n:Nat) (s:Str),s.length≤n→(runesU s).length≤s.length
 | _,[],_=>by simp [runesU_nil]
 | 0,_::_,h=>by simp at h
 | n+1,c::l,h=>by
   have h1:=decU_size c l
   have h2:((c::l).drop (decU (c::l)).2).length≤l.length:=by rw [List.length_drop];simp only [List.length_cons];omega
   have:=runesU_len n ((c::l).drop (decU (c::l)).2) (by simp only [List.length_cons] at h;omega)
   rw [runesU_cons]
   simp only [List.length_cons]
   omega
theorem runesU_lt:∀ (n:Nat) (s:Str),s.length≤n→∀ q∈runesU s,q.1<8388608
 | _,[],_,q,hq=>by simp [runesU_nil] at hq
 | 0,_::_,h,q,hq=>by simp at h
 | n+1,c::l,h,q,hq=>by
   have h1:=decU_size c l
   rw [runesU_cons] at hq
   rcases List.mem_cons.1 hq with rfl | hq
   ·exact decU_num _
   ·exact runesU_lt n _ (by rw [List.length_drop];simp only [List.length_cons] at h ⊢;omega) q hq
theorem scells_np:∀ a:List Str,noPtrs (scells a)=true
 | []=>rfl
 | c::a=>by show noPtrs (.flat (.string (S c))::scells a)=true;simp only [noPtrs,PV.noPtr,scells_np a,Bool.true_and]
theorem rcells_np:∀ a:List Nat,noPtrs (rcells a)=true
 | []=>rfl
 | c::a=>by show noPtrs (.flat (.int .i32 (c:Nat))::rcells a)=true;simp only [noPtrs,PV.noPtr,rcells_np a,Bool.true_and]
theorem numsU_len (s:Str):(numsU s).length≤s.length:=by
 unfold numsU;rw [List.length_map];exact runesU_len _ s (Nat.le_refl _)
theorem numsU_lt (s:Str) (x:Nat) (h:x∈numsU s):x<8388608:=by
 unfold numsU at h
 obtain ⟨q,hq,rfl⟩:=List.mem_map.1 h
 exact runesU_lt _ s (Nat.le_refl _) q hq
section
variable {α:Type} (BX:α→Boxes) (oc:α→List (Nat × Nat)) (step:α→Str→α) (I:α→Nat→Prop) (b p nb:Nat)
theorem words_r0 (hlen:∀ a,(BX a).length=nb) (hoc:∀ a,∀ q∈oc a,q.1<nb) (N:Nat)
 (hI:∀ a k x,I a k→k<N→x.length≤10000→I (step a x) (k+1))
 (hy:∀ a k x,I a k→k<N→x.length≤10000→evW code lib yldF [.yld b,.flat (.string (S x))] (BX a) (cl (oc a))=some ([.flat (.bool true)],false,BX (step a x),cl (oc (step a x))))
 (L:List Str) (hL:L.length≤N) (hL2:L.length≤1000000) (hx:∀ x∈L,x.length≤10000) (a:α) (ha:I a 0) (hN:L.length<big) :
 evLoop (evC (evW code lib) big b_fold_words_1_0) [0,14,15,16] nb big ⟨[(0,.yld b),(14,.slc L.length (scells L)),(15,.flat (.int .i64 (L.length:Nat))),(16,.flat (.int .i64 0))],cl (oc a),[],BX a⟩ =
  some (.exit 0,⟨[],cl (oc (L.foldl step a)),[],BX (L.foldl step a)⟩):=by
 have hloop:=loop_by (body:=evC (evW code lib) big b_fold_words_1_0) (live:=[0,14,15,16]) (nb:=nb) (fun q:α × Nat=>(⟨[(0,.yld b),(14,.slc L.length (scells L)),(15,.flat (.int .i64 (L.length:Nat))),(16,.flat (.int .i64 (q.2:Nat)))],cl (oc q.1),[],BX q.1⟩:St)) (fun q=>I q.1 q.2∧q.2≤L.length) (fun q=>L.length - q.2)
  (fun q=>(.exit 0,⟨[],cl (oc ((L.drop q.2).foldl step q.1)),[],BX ((L.drop q.2).foldl step q.1)⟩)) (fun ⟨a,k⟩ ha=>?_) (n:=big) (a:=(a,0)) ⟨ha,Nat.zero_le _⟩ (by dsimp only;omega)
 ·exact hloop
 ·dsimp only at ha ⊢
  obtain ⟨ha,hk⟩:=ha
  have h1:=hlen a
  by_cases hlt:k<L.length
  ·right
   have hc:L[k]? =some L[k]:=List.getElem?_eq_getElem hlt
   have hd:L.drop k=L[k]::L.drop (k+1):=List.drop_eq_getElem_cons hlt
   have hxl:=hx _ (List.getElem_mem hlt)
   have c1:(k:Int)<L.length:=by omega
   have c2:(0:Int)≤(k:Nat):=by omega
   have w1:IntKind.i64.wrap ((k:Int)+1)=((k+1:Nat):Int):=wrap64 (by omega)
   have hsc:(scells L).drop k=.flat (.string (S L[k]))::(scells L).drop (k+1):=by simp only [scells,← List.map_drop,hd,List.map_cons]
   have hle:1≤((scells L).drop (k+1)).length+1:=by omega
   have hyy:=hy a k L[k] ha (by omega) hxl
   have h2:=hlen (step a L[k])
   refine ⟨⟨[(0,.yld b),(14,.slc L.length (scells L)),(15,.flat (.int .i64 (L.length:Nat))),(16,.flat (.int .i64 ((k+1:Nat):Int)))],cl (oc (step a L[k])),[],BX (step a L[k])⟩,(step a L[k],k+1),?_,?_,⟨hI a k _ ha (by omega) hxl,hlt⟩,by dsimp only;omega,by dsimp only;rw [hd,List.foldl_cons]⟩
   ·simp only [on_fold_words_1_0,go_sem,simprocAttr,cl_keep,cl_owns,cl_cells,cl_drop,cl_slots,scells_len,c1,c2,w1,hsc,hle,List.length_cons,hyy,Int.toNat_natCast,trim_same h1,h1,h2,dropCs_nil]
   ·simp only [go_sem,simprocAttr,cl_keep,cl_owns,trim_same h2,h2,cl_under _ (hoc _)]
  ·left
   obtain rfl:k=L.length:=by omega
   have c1:¬ (L.length:Int)<L.length:=by omega
   refine ⟨.exit 0,⟨[],cl (oc a),[],BX a⟩,?_,by simp,by simp only [List.drop_length,List.foldl_nil]⟩
   simp only [on_fold_words_1_0,go_sem,simprocAttr,cl_keep,cl_owns,cl_cells,cl_drop,cl_slots,c1,trim_same h1,h1,dropCs_nil]
def grpS (enc:Str→Str):α→Str→List Nat→α × Str
 | a,now,[]=>(a,now)
 | a,now,r::l=>if 45<now.length+(bytesU r).length then grpS enc (step a (codedU enc now)) (bytesU r) l else grpS enc a (now++bytesU r) l
theorem grpS_eq (enc:Str→Str):∀ (l:List Nat) (a:α) (now:Str),(groupsU enc now l).foldl step a=step (grpS step enc a now l).1 (codedU enc (grpS step enc a now l).2)
 | [],a,now=>rfl
 | r::l,a,now=>by
   simp only [groupsU,grpS]
   split
   ·rw [List.foldl_cons];exact grpS_eq enc l _ _
   ·exact grpS_eq enc l _ _
theorem words_r1 {enc:Str→Str} (HE:LibB64 lib enc) (hlen:∀ a,(BX a).length=nb) (hoc:∀ a,∀ q∈oc a,q.1<nb) (N:Nat)
 (hI:∀ a k x,I a k→k<N→x.length≤10000→I (step a x) (k+1))
 (hy:∀ a k x,I a k→k<N→x.length≤10000→evW code lib yldF [.yld b,.flat (.string (S x))] (BX a) (cl (oc a))=some ([.flat (.bool true)],false,BX (step a x),cl (oc (step a x))))
 (L:List Nat) (hL:L.length≤N) (hL2:L.length≤1000000) (hx:∀ x∈L,x<2147483648) (a:α) (ha:I a 0) (hN:L.length<big) :
 evLoop (evC (evW code lib) big b_fold_words_1_1) [0,5,26,27,28] nb big ⟨[(0,.yld b),(5,.flat (.string (S []))),(26,.slc L.length (rcells L)),(27,.flat (.int .i64 (L.length:Nat))),(28,.flat (.int .i64 0))],cl (oc a),[],BX a⟩ =
  some (.exit 2,⟨[(0,.yld b),(5,.flat (.string (S (grpS step enc a [] L).2)))],cl (oc (grpS step enc a [] L).1),[],BX (grpS step enc a [] L).1⟩)∧(∃ j,j≤L.length∧I (grpS step enc a [] L).1 j)∧(grpS step enc a [] L).2.length≤45:=by
 have hloop:=loop_by (body:=evC (evW code lib) big b_fold_words_1_1) (live:=[0,5,26,27,28]) (nb:=nb) (fun q:(α × Str) × Nat=>(⟨[(0,.yld b),(5,.flat (.string (S q.1.2))),(26,.slc L.length (rcells L)),(27,.flat (.int .i64 (L.length:Nat))),(28,.flat (.int .i64 (q.2:Nat)))],cl (oc q.1.1),[],BX q.1.1⟩:St)) (fun q=>(∃ j,j≤q.2∧I q.1.1 j)∧q.1.2.length≤45∧q.2≤L.length) (fun q=>L.length - q.2)
  (fun q=>(.exit 2,⟨[(0,.yld b),(5,.flat (.string (S (grpS step enc q.1.1 q.1.2 (L.drop q.2)).2)))],cl (oc (grpS step enc q.1.1 q.1.2 (L.drop q.2)).1),[],BX (grpS step enc q.1.1 q.1.2 (L.drop q.2)).1⟩)) (fun ⟨⟨a,now⟩,k⟩ ha=>?_) (n:=big) (a:=((a,[]),0)) ⟨⟨0,Nat.le_refl _,ha⟩,by simp,Nat.zero_le _⟩ (by dsimp only;omega)
 ·refine ⟨hloop,?_⟩
  have hgen:∀ (l:List Nat) (a:α) (now:Str) (k:Nat),k+l.length=L.length→(∃ j,j≤k∧I a j)→now.length≤45→(∃ j,j≤L.length∧I (grpS step enc a now l).1 j)∧(grpS step enc a now l).2.length≤45:=by
   intro l
   induction l with
   | nil=>exact fun a now k hk ⟨j,h1,h2⟩ hn=>⟨⟨j,by simp only [List.length_nil] at hk;omega,h2⟩,hn⟩
   | cons r l ih =>
     intro a now k hk ⟨j,h1,h2⟩ hn
     have h4:=bytesU_len r
     simp only [List.length_cons] at hk
     simp only [grpS]
     split
     ·exact ih _ _ (k+1) (by omega) ⟨j+1,by omega,hI a j _ h2 (by omega) (Nat.le_trans (codedU_len HE (by omega)) (by decide))⟩ (by omega)
     ·exact ih _ _ (k+1) (by omega) ⟨j,by omega,h2⟩ (by rw [List.length_append];omega)
  exact hgen L a [] 0 (by omega) ⟨0,Nat.le_refl _,ha⟩ (by simp)
 ·dsimp only at ha ⊢
  obtain ⟨⟨j,hj,ha⟩,hn45,hk⟩:=ha
  have h1:=hlen a
  by_cases hlt:k<L.length
  ·right
   have hc:L[k]? =some L[k]:=List.getElem?_eq_getElem hlt
   have hd:L.drop k=L[k]::L.drop (k+1):=List.drop_eq_getElem_cons hlt
   have hxl:=hx _ (List.getElem_mem hlt)
   obtain ⟨r,hr⟩:∃ r,L[k]=r:=⟨_,rfl⟩
   rw [hr] at hd hxl
   have c1:(k:Int)<L.length:=by omega
   have c2:(0:Int)≤(k:Nat):=by omega
   have w1:IntKind.i64.wrap ((k:Int)+1)=((k+1:Nat):Int):=wrap64 (by omega)
   have w2:IntKind.i64.wrap (45 - (now.length:Int))=45 - (now.length:Int):=wrap64 (by omega)
   have hsc:(rcells L).drop k=.flat (.int .i32 (r:Nat))::(rcells L).drop (k+1):=by simp only [rcells,← List.map_drop,hd,List.map_cons]
   have hle:1≤((rcells L).drop (k+1)).length+1:=by omega
   have hb:=bytes_ev (lib:=lib) r hxl
   have hb4:=bytesU_len r
   have hf:(⟨#[61,63,85,84,70,45,56,63,66,63]⟩:ByteArray)=S frontU:=rfl
   have hbk:(⟨#[63,61]⟩:ByteArray)=S [63,61]:=rfl
   have he0:(⟨#[]⟩:ByteArray)=S []:=rfl
   by_cases hg:45<now.length+(bytesU r).length
   ·have hg':45 - (now.length:Int)<((bytesU r).length:Int):=by omega
    have hcl:=codedU_len HE (g:=now) (by omega)
    have hyy:=hy a j (codedU enc now) ha (by omega) (by omega)
    have h2:=hlen (step a (codedU enc now))
    have he:=b64_ev HE now (by omega)
    have hap:frontU++enc now++[63,61]=codedU enc now:=rfl
    have hel:=(HE now (by omega)).1
    have q1:frontU.length+(enc now).length≤bound:=by unfold bound;simp only [frontU,List.length_cons,List.length_nil];omega
    have q3:(bytesU r).length≤bound:=by unfold bound;omega
    have q2:(frontU++enc now).length+2≤bound:=by unfold bound;simp only [frontU,List.length_append,List.length_cons,List.length_nil];omega
    refine ⟨⟨[(0,.yld b),(5,.flat (.string (S (bytesU r)))),(26,.slc L.length (rcells L)),(27,.flat (.int .i64 (L.length:Nat))),(28,.flat (.int .i64 ((k+1:Nat):Int)))],cl (oc (step a (codedU enc now))),[],BX (step a (codedU enc now))⟩,((step a (codedU enc now),bytesU r),k+1),?_,?_,⟨⟨j+1,by dsimp only;omega,hI a j _ ha (by omega) (by omega)⟩,by dsimp only;omega,hlt⟩,by dsimp only;omega,by dsimp only;rw [hd];simp only [grpS,hg,if_true]⟩
    ·simp only [on_fold_words_1_1,go_sem,simprocAttr,cl_keep,cl_owns,cl_cells,cl_drop,cl_slots,rcells_len,c1,c2,w1,w2,hsc,hle,List.length_cons,hb,hg',S_size,S_app,hf,hbk,he0,he,hap,q1,q2,q3,hyy,Int.toNat_natCast,trim_same h1,h1,h2,dropCs_nil,List.nil_append]
    ·simp only [go_sem,simprocAttr,cl_keep,cl_owns,trim_same h2,h2,cl_under _ (hoc _)]
   ·have hg':¬ 45 - (now.length:Int)<((bytesU r).length:Int):=by omega
    have q1:now.length+(bytesU r).length≤bound:=by unfold bound;omega
    refine ⟨⟨[(0,.yld b),(5,.flat (.string (S (now++bytesU r)))),(26,.slc L.length (rcells L)),(27,.flat (.int .i64 (L.length:Nat))),(28,.flat (.int .i64 ((k+1:Nat):Int)))],cl (oc a),[],BX a⟩,((a,now++bytesU r),k+1),?_,?_,⟨⟨j,by dsimp only;omega,ha⟩,by dsimp only;rw [List.length_append];omega,hlt⟩,by dsimp only;omega,by dsimp only;rw [hd];simp only [grpS,hg,if_false]⟩
    ·simp only [on_fold_words_1_1,go_sem,simprocAttr,cl_keep,cl_owns,cl_cells,cl_drop,cl_slots,rcells_len,c1,c2,w1,w2,hsc,hle,List.length_cons,hb,hg',q1,S_size,S_app,Int.toNat_natCast,trim_same h1,h1,dropCs_nil]
    ·simp only [go_sem,simprocAttr,cl_keep,cl_owns,trim_same h1,h1,cl_under _ (hoc _)]
  ·left
   obtain rfl:k=L.length:=by omega
   have c1:¬ (L.length:Int)<L.length:=by omega
   refine ⟨.exit 2,⟨[(0,.yld b),(5,.flat (.string (S now)))],cl (oc a),[],BX a⟩,?_,by simp,by simp only [List.drop_length,grpS]⟩
   simp only [on_fold_words_1_1,go_sem,simprocAttr,cl_keep,cl_owns,cl_cells,cl_drop,cl_slots,c1,trim_same h1,h1,dropCs_nil]
theorem words_run {enc:Str→Str} (HE:LibB64 lib enc) (HI:LibIdx lib) (HP:LibPre lib) (s:Str) (hs:s.length≤10000) (hbox:∀ a,(BX a)[p]? =some (9,[.flat (.string (S s))])) (hlen:∀ a,(BX a).length=nb) (hoc:∀ a,∀ q∈oc a,q.1<nb)
 (hI:∀ a k x,I a k→k<10002→x.length≤10000→I (step a x) (k+1))
 (hy:∀ a k x,I a k→k<10002→x.length≤10000→evW code lib yldF [.yld b,.flat (.string (S x))] (BX a) (cl (oc a))=some ([.flat (.bool true)],false,BX (step a x),cl (oc (step a x)))) (a:α) (ha:I a 0) :
 evW code lib 147 [.yld b,.ptr p 0] (BX a) (cl (oc a))=some ([],false,BX ((wordsU enc s).foldl step a),cl (oc ((wordsU enc s).foldl step a))):=by
 refine evW_eq code_fold_words_1 (Nat.le_of_ble_eq_true rfl) ?_
 have he0:(⟨#[]⟩:ByteArray)=S []:=rfl
 have hb:=hbox a
 have h1:=hlen a
 by_cases h0:s=[]
 ·have h0':(s=[])=True:=eq_true h0
  simp only [go_sem,simprocAttr,cl_keep,cl_owns,cl_cells,cl_drop,cl_slots,hb,he0,S_eqB,h0',wordsU,List.foldl_nil,trim_same h1,h1,dropCs_nil,cl_under _ (hoc a)]
 have h0':(s=[])=False:=eq_false h0
 have hpl:=plain_ev (lib:=lib) HP s (by omega)
 cases hp:plainU s with
 | true =>
   rw [hp] at hpl
   have hcut:=cut_ev HI s 32 (by omega)
   have hcl:=cutU_len 32 s
   have hr:=words_r0 (lib:=lib) BX oc step I b nb hlen hoc 10002 hI hy (cutU 32 s) (by omega) (by omega) (fun x hx=>by have:=cutU_mem 32 s x hx;omega) a ha (by unfold big;omega)
   have h2:=hlen ((cutU 32 s).foldl step a)
   have h32:((32:UInt8).toNat:Int)=32:=rfl
   rw [h32] at hcut
   simp only [go_sem,simprocAttr,cl_keep,cl_owns,cl_cells,cl_drop,cl_slots,hb,he0,S_eqB,h0',hpl,hp,hcut,hr,wordsU,scells_low,scells_np,trim_same h1,h1,trim_same h2,h2,dropCs_nil,cl_under _ (hoc _)]
 | false =>
   rw [hp] at hpl
   have hrn:=runes_ev (lib:=lib) s (by omega)
   have hnl:=numsU_len s
   obtain ⟨hr,⟨j,hj,hj2⟩,hn45⟩:=words_r1 (lib:=lib) BX oc step I b nb HE hlen hoc 10002 hI hy (numsU s) (by omega) (by omega) (fun x hx=>by have:=numsU_lt s x hx;omega) a ha (by unfold big;omega)
   have hge:=grpS_eq step enc (numsU s) a []
   obtain ⟨⟨a2,now⟩,hg⟩:∃ q,grpS step enc a [] (numsU s)=q:=⟨_,rfl⟩
   rw [hg] at hr hge hj2 hn45
   dsimp only at hr hge hj2 hn45
   have hf:(⟨#[61,63,85,84,70,45,56,63,66,63]⟩:ByteArray)=S frontU:=rfl
   have hbk:(⟨#[63,61]⟩:ByteArray)=S [63,61]:=rfl
   have hcl:=codedU_len HE (g:=now) (by omega)
   have hyy:=hy a2 j (codedU enc now) hj2 (by omega) (by omega)
   have h2:=hlen a2
   have h3:=hlen (step a2 (codedU enc now))
   have he:=b64_ev HE now (by omega)
   have hap:frontU++enc now++[63,61]=codedU enc now:=rfl
   have hel:=(HE now (by omega)).1
   have q1:frontU.length+(enc now).length≤bound:=by unfold bound;simp only [frontU,List.length_cons,List.length_nil];omega
   have q2:(frontU++enc now).length+2≤bound:=by unfold bound;simp only [frontU,List.length_append,List.length_cons,List.length_nil];omega
   have hw:(wordsU enc s).foldl step a=step a2 (codedU enc now):=by simp only [wordsU,h0,hp,Bool.false_eq_true,if_false];exact hge
   rw [hw]
   simp only [go_sem,simprocAttr,cl_keep,cl_owns,cl_cells,cl_drop,cl_slots,hb,he0,S_eqB,h0',hpl,hp,hrn,hr,rcells_low,rcells_np,hf,hbk,S_app,S_size,he,hap,q1,q2,hyy,List.length_cons,trim_same h1,h1,trim_same h2,h2,trim_same h3,h3,dropCs_nil,cl_under _ (hoc _)]
end
end Nun
end
section
namespace Nun
open Go Go.RowKit Go.Proofs Go.Proofs.YtmpiobfdchlikaaGreatDoor
variable {lib:Callee}
theorem words_ev (s:Str) (bx:Boxes) (oc:List (Nat × Nat)) (h:∀ q∈oc,q.1<bx.length):evW code lib 93 [.flat (.string (S s))] bx (cl oc)=some ([.clo 147 [.ptr bx.length 0]],false,bx++[(9,[.flat (.string (S s))])],cl oc):=by
 refine evW_eq code_fold_words (Nat.le_of_ble_eq_true rfl) ?_
 have h3:¬ (bx.length+1=bx.length):=by omega
 have h4:underO (bx.length+1) (cl oc)=cl oc:=cl_under _ fun q hq=>by have:=h q hq;omega
 simp only [go_sem,simprocAttr,cl_keep,cl_owns,cl_cells,cl_drop,List.length_append,h3,Nat.lt_irrefl,h4]
def stepW (q:Str × Nat) (x:Str):Str × Nat:=(putT q.1 x q.2,putL x q.2)
def laidU (enc:Str→Str) (f v:Str):Str:=((wordsU enc v).foldl stepW (f++[58],f.length+1)).1++[13,10]
def bxW (v:Str) (q:Str × Nat):Boxes:=[(144,bld true 0 q.1 [.flat (.int .i64 (q.2:Nat))]),(9,[.flat (.string (S v))]),(0,[.lp 46 0 .ready [6] [.ptr 0 0]])]
def inW (q:Str × Nat) (k:Nat):Prop:=q.1.length≤11000+k * 10010∧q.2≤10010
theorem stepW_in (q:Str × Nat) (k:Nat) (x:Str) (h:inW q k) (hk:k<10002) (hx:x.length≤10000):inW (stepW q x) (k+1):=by
 obtain ⟨h1,h2⟩:=h
 unfold inW stepW putT putL longer
 dsimp only
 by_cases hc:76≤x.length+q.2
 ·simp only [hc,decide_true,if_true,List.length_append,List.length_cons,List.length_nil];omega
 ·simp only [hc,decide_false,Bool.false_eq_true,if_false,List.length_append,List.length_cons];omega
theorem foldW_in:∀ (L:List Str) (k:Nat) (q:Str × Nat),inW q k→(k+L.length≤10002∧∀ x∈L,x.length≤10000)→(L.foldl stepW q).1.length≤200000000
 | [],k,q,h,hl=>by obtain ⟨h1,h2⟩:=h;simp only [List.foldl_nil];have:=hl.1;simp only [List.length_nil] at this;omega
 | x::L,k,q,h,hl=>by
   rw [List.foldl_cons]
   have h1:=hl.1
   simp only [List.length_cons] at h1
   exact foldW_in L (k+1) _ (stepW_in q k x h (by omega) (hl.2 x List.mem_cons_self)) ⟨by omega,fun y hy=>hl.2 y (List.mem_cons_of_mem _ hy)⟩
theorem groupsU_mem {enc:Str→Str} (HE:LibB64 lib enc):∀ (l:List Nat) (now:Str),now.length≤45→∀ x∈groupsU enc now l,x.length≤200
 | [],now,h,x,hx=>by simp [groupsU] at hx;subst hx;exact codedU_len HE (by omega)
 | r::l,now,h,x,hx=>by
   have h4:=bytesU_len r
   simp only [groupsU] at hx
   split at hx
   ·rcases List.mem_cons.1 hx with rfl | hx
    ·exact codedU_len HE (by omega)
    ·exact groupsU_mem HE l _ (by omega) x hx
   ·exact groupsU_mem HE l _ (by rw [List.length_append];omega) x hx
theorem wordsU_len {enc:Str→Str} (HE:LibB64 lib enc) (v:Str) (hv:v.length≤10000):0+(wordsU enc v).length≤10002∧∀ x∈wordsU enc v,x.length≤10000:=by
 unfold wordsU
 split
 ·simp
 ·split
  ·have:=cutU_len 32 v
   exact ⟨by omega,fun x hx=>by have:=cutU_mem 32 v x hx;omega⟩
  ·have:=groupsU_len enc (numsU v) []
   have:=numsU_len v
   exact ⟨by omega,fun x hx=>by have:=groupsU_mem HE _ [] (by simp) x hx;omega⟩
theorem write_round (HB:BldIn lib) (v:Str) (q:Str × Nat) (k:Nat) (x:Str) (h:inW q k) (hk:k<10002) (hx:x.length≤10000):evW code lib yldF [.yld 2,.flat (.string (S x))] (bxW v q) [.cell 0 1]=some ([.flat (.bool true)],false,bxW v (stepW q x),[.cell 0 1]):=by
 refine evW_round code_yld code_fold_Write rfl rfl rfl ?_
 obtain ⟨h1,h2⟩:=h
 have hp:=put_ev (lib:=lib) HB (bx:=[(144,bld true 0 q.1 [.flat (.int .i64 (q.2:Nat))]),(9,[.flat (.string (S v))]),(0,[.lp 46 0 .busy [6] [.ptr 0 0]])]) (r:=[]) (b:=0) (e:=144) (u:=true) (l:=q.1) (w:=x) (long:=q.2) rfl liesL (by omega) (by omega) (by simp) (by simp) (by simp)
 have hc:(Loc.cell 0 1::cl [])=[.cell 0 1]:=rfl
 simp only [hc,List.set_cons_zero] at hp
 simp only [h_fold_Write_0,g_fold_Write_0,bxW,stepW,go_sem,simprocAttr,hp]
theorem write_ev {enc:Str→Str} (HE:LibB64 lib enc) (HI:LibIdx lib) (HP:LibPre lib) (HB:BldIn lib) (f v:Str) (hv:v.length≤10000) (hf:f.length≤10000):evW code lib 46 [.flat (.string (S f)),.flat (.string (S v))] [] [] =
 some ([.flat (.string (S (if nameU f then laidU enc f v else []))),.flat (.int .i64 (if nameU f then 0 else 1))],false,[],[]):=by
 refine evW_eq code_fold_Write (Nat.le_of_ble_eq_true rfl) ?_
 have hn:=name_ev (lib:=lib) f (by omega)
 have he0:(⟨#[]⟩:ByteArray)=S []:=rfl
 have he1:(⟨#[58]⟩:ByteArray)=S [58]:=rfl
 have he2:(⟨#[13,10]⟩:ByteArray)=S [13,10]:=rfl
 cases hnm:nameU f with
 | false =>
   rw [hnm] at hn
   simp only [go_sem,simprocAttr,hn,he0,hnm]
 | true =>
   rw [hnm] at hn
   have w1:IntKind.i64.wrap ((f.length:Int)+1)=((f.length+1:Nat):Int):=wrap64 (by omega)
   have ws1:=ws_ev (lib:=lib) (bx:=[(144,bld false 0 [] [.flat (.int .i64 ((f.length+1:Nat):Int))])]) (r:=[]) (m:=f++[58]) (b:=0) (u:=false) (l:=[]) HB rfl liesL (by simp only [List.length_append,List.length_cons,List.length_nil];unfold bound;omega) (by simp) (by simp)
   have hc0:(Loc.cell 0 1::cl [])=[.cell 0 1]:=rfl
   have hrun:=words_run (lib:=lib) (bxW v) (fun _=>[(0,1)]) stepW inW 2 1 3 HE HI HP v hv (fun _=>rfl) (fun _=>rfl) (fun a q hq=>by simp at hq;subst hq;decide) (fun a k x h1 h2 h3=>stepW_in a k x h1 h2 h3) (fun a k x h1 h2 h3=>write_round HB v a k x h1 h2 h3) (f++[58],f.length+1) ⟨by simp only [List.length_append,List.length_cons,List.length_nil];omega,by dsimp only;omega⟩
   obtain ⟨⟨l,long⟩,hq⟩:∃ q,(wordsU enc v).foldl stepW (f++[58],f.length+1)=q:=⟨_,rfl⟩
   have hlen:=foldW_in (wordsU enc v) 0 (f++[58],f.length+1) ⟨by simp only [List.length_append,List.length_cons,List.length_nil];omega,by dsimp only;omega⟩ (wordsU_len HE v hv)
   rw [hq] at hrun hlen
   have hll:l.length≤200000000:=hlen
   have q1:f.length+1≤bound:=by unfold bound;omega
   have f1:evW code lib 47 [.ptr 0 0,.flat (.string (S (f++[58])))] [(144,[.flat (.pointer none),.slc 0 [],.flat (.int .i64 ((f.length+1:Nat):Int))])] [.cell 0 1]=some ([.flat (.int .i64 ((f++[58]).length:Nat)),.flat .nilIface],false,[(144,[.ptr 0 0,.slc (f++[58]).length (bcells (f++[58])),.flat (.int .i64 ((f.length+1:Nat):Int))])],[.cell 0 1]):=ws1
   have e1:=words_ev (lib:=lib) v [(144,[.ptr 0 0,.slc (f++[58]).length (bcells (f++[58])),.flat (.int .i64 ((f.length+1:Nat):Int))])] [(0,1)] (by simp)
   have e2:=words_ev (lib:=lib) v [] [] (by simp)
   have hc1:cl [(0,1)]=[.cell 0 1]:=rfl
   have hc2:cl []=[]:=rfl
   simp only [hc1,hc2,go_sem,simprocAttr] at e1 e2
   have f2:evW code lib 147 [.yld 2,.ptr 1 0] [(144,[.ptr 0 0,.slc (f++[58]).length (bcells (f++[58])),.flat (.int .i64 ((f.length+1:Nat):Int))]),(9,[.flat (.string (S v))]),(0,[.lp 46 0 .ready [6] [.ptr 0 0]])] [.cell 0 1]=some ([],false,[(144,[.ptr 0 0,.slc l.length (bcells l),.flat (.int .i64 (long:Nat))]),(9,[.flat (.string (S v))]),(0,[.lp 46 0 .ready [6] [.ptr 0 0]])],[.cell 0 1]):=hrun
   have ws2:=ws_ev (lib:=lib) (bx:=[(144,bld true 0 l [.flat (.int .i64 (long:Nat))]),(9,[.flat (.string (S v))])]) (r:=[]) (m:=[13,10]) (b:=0) (u:=true) (l:=l) HB rfl liesL (by simp only [List.length_cons,List.length_nil];unfold bound;omega) (by simp) (by simp)
   have f3:evW code lib 47 [.ptr 0 0,.flat (.string (S [13,10]))] [(144,[.ptr 0 0,.slc l.length (bcells l),.flat (.int .i64 (long:Nat))]),(9,[.flat (.string (S v))])] [.cell 0 1]=some ([.flat (.int .i64 (([13,10]:Str).length:Nat)),.flat .nilIface],false,[(144,[.ptr 0 0,.slc (l++[13,10]).length (bcells (l++[13,10])),.flat (.int .i64 (long:Nat))]),(9,[.flat (.string (S v))])],[.cell 0 1]):=ws2
   have f4:evW code lib 28 [.ptr 0 0] [(144,[.ptr 0 0,.slc (l++[13,10]).length (bcells (l++[13,10])),.flat (.int .i64 (long:Nat))]),(9,[.flat (.string (S v))])] [.cell 0 1]=some ([.flat (.string (S (l++[13,10])))],false,[(144,[.ptr 0 0,.slc (l++[13,10]).length (bcells (l++[13,10])),.flat (.int .i64 (long:Nat))]),(9,[.flat (.string (S v))])],dropL (.cell 0 1) [.cell 0 1]):=st_ev (u:=true) (rest:=[.flat (.int .i64 (long:Nat))]) HB rfl (by simp)
   have hlr:laidU enc f v=l++[13,10]:=by simp only [laidU,hq]
   simp only [go_sem,simprocAttr,hn,he0,he1,he2,hnm,w1,q1,S_size,S_app,f1,e1,e2,f2,f3,f4,bcells_low,hlr]
def walkL {α β:Type} (f:α→Nat→β→α ⊕ (Out × St)) (fin:α→Out × St):α→Nat→List β→Out × St
 | a,_,[]=>fin a
 | a,k,x::t=>match f a k x with
   | .inl a'=>walkL f fin a' (k+1) t
   | .inr r=>r
theorem loop_idx {α β:Type} {body:St→Option (Out × St)} {live:List Nat} {nb:Nat} (head:α→Nat→St) (L:List β) (I:α→Nat→Prop) (f:α→Nat→β→α ⊕ (Out × St)) (fin:α→Out × St)
 (hr:∀ a k x,I a k→k<L.length→L[k]? =some x→L.drop k=x::L.drop (k+1) →
   (∃ a' s,f a k x=.inl a'∧body (head a k)=some (.normal,s)∧s.only live nb=head a' (k+1)∧I a' (k+1))∨(∃ r,f a k x=.inr r∧body (head a k)=some r∧r.1≠.normal))
 (he:∀ a,I a L.length→body (head a L.length)=some (fin a)∧(fin a).1≠.normal) (a:α) (ha:I a 0) (hL:L.length<big) :
 evLoop body live nb big (head a 0)=some (walkL f fin a 0 L):=by
 have hloop:=loop_by (body:=body) (live:=live) (nb:=nb) (fun q:α × Nat=>head q.1 q.2) (fun q=>I q.1 q.2∧q.2≤L.length) (fun q=>L.length - q.2)
  (fun q=>walkL f fin q.1 q.2 (L.drop q.2)) (fun ⟨a,k⟩ ha=>?_) (n:=big) (a:=(a,0)) ⟨ha,Nat.zero_le _⟩ (by dsimp only;omega)
 ·exact hloop
 ·dsimp only at ha ⊢
  obtain ⟨ha,hk⟩:=ha
  by_cases hlt:k<L.length
  ·have hc:L[k]? =some L[k]:=List.getElem?_eq_getElem hlt
   have hd:L.drop k=L[k]::L.drop (k+1):=List.drop_eq_getElem_cons hlt
   rcases hr a k L[k] ha hlt hc hd with ⟨a',s,h1,h2,h3,h4⟩ | ⟨r,h1,h2,h3⟩
   ·right
    exact ⟨s,(a',k+1),h2,h3,⟨h4,hlt⟩,by dsimp only;omega,by dsimp only;rw [hd,walkL,h1]⟩
   ·left
    exact ⟨r.1,r.2,h2,h3,by rw [hd,walkL,h1]⟩
  ·left
   obtain rfl:k=L.length:=by omega
   obtain ⟨h1,h2⟩:=he a ha
   exact ⟨(fin a).1,(fin a).2,h1,h2,by rw [List.drop_length,walkL]⟩
theorem loop_at {α β:Type} {body:St→Option (Out × St)} {live:List Nat} {nb:Nat} (head:α→Nat→St) (L:List β) (I:α→Nat→Prop) (f:α→Nat→β→α ⊕ (Out × St)) (fin:α→Out × St)
 (hr:∀ a k x,I a k→k<L.length→L[k]? =some x→L.drop k=x::L.drop (k+1)→body (head a k)=match f a k x with | .inl a'=>some (.normal,head a' (k+1)) | .inr r=>some r)
 (ho:∀ a k,(head a k).only live nb=head a k) (hI:∀ a k x a',I a k→k<L.length→L[k]? =some x→f a k x=.inl a'→I a' (k+1)) (hn:∀ a k x r,f a k x=.inr r→r.1≠.normal)
 (he:∀ a,I a L.length→body (head a L.length)=some (fin a)) (hf:∀ a,(fin a).1≠.normal) (a:α) (ha:I a 0) (hL:L.length<big) :
 evLoop body live nb big (head a 0)=some (walkL f fin a 0 L) :=
 loop_idx head L I f fin (fun a k x hi hk hx hd=>by
  have h:=hr a k x hi hk hx hd
  cases hq:f a k x with
  | inl a' =>
    rw [hq] at h
    exact .inl ⟨a',_,rfl,h,ho a' (k+1),hI a k x a' hi hk hx hq⟩
  | inr r =>
    rw [hq] at h
    exact .inr ⟨r,rfl,h,hn a k x r hq⟩) (fun a hi=>⟨he a hi,hf a⟩) a ha hL
theorem walk_all {β:Type} {p:β→Bool} {r:Out × St} {fin:Unit→Out × St}:∀ (L:List β) (k:Nat),walkL (fun (_:Unit) _ x=>if p x then .inl () else .inr r) fin () k L=if L.all p then fin () else r
 | [],k=>rfl
 | x::t,k=>by
   rw [walkL,List.all_cons]
   cases hp:p x with
   | true=>rw [if_pos rfl,Bool.true_and];exact walk_all t _
   | false=>rw [if_neg (by simp),Bool.false_and,if_neg (by simp)]
theorem slice_pre (s w:Str) (k:Nat) (h:w.length≤s.length - k) (hk:k≤s.length):decide ((s.take (k+w.length)).drop k=w)=w.isPrefixOf (s.drop k):=by
 rw [List.drop_take,Nat.add_sub_cancel_left,Bool.eq_iff_iff,decide_eq_true_eq,List.isPrefixOf_iff_prefix,List.prefix_iff_eq_take]
 exact eq_comm
theorem pre_long (s w:Str) (h:¬ w.length≤s.length):w.isPrefixOf s=false:=by
 rw [Bool.eq_false_iff]
 intro hp
 exact h (List.IsPrefix.length_le (List.isPrefixOf_iff_prefix.1 hp))
theorem begins2_ev (s w:Str) (k:Nat) (hs:s.length≤1000000000) (hw:w.length≤1000000000) (hk:k≤1000000000):evW code lib 60 [.flat (.string (S s)),.flat (.string (S w)),.flat (.int .i64 (k:Nat))] [] []=some ([.flat (.bool (beginsU s w k))],false,[],[]):=by
 refine evW_eq code_n01_Begins (Nat.le_of_ble_eq_true rfl) ?_
 have c0:(0:Int)≤(k:Nat):=by omega
 have w1:IntKind.i64.wrap ((s.length:Int) - (k:Int))=(s.length:Int) - (k:Int):=wrap64 (by omega)
 have w2:IntKind.i64.wrap ((k:Int)+(w.length:Int))=((k+w.length:Nat):Int):=by rw [wrap64 (by omega)];rfl
 by_cases h:k≤s.length
 ·have c1:(k:Int)≤s.length:=by omega
  by_cases h2:w.length≤s.length - k
  ·have c2:(w.length:Int)≤(s.length:Int) - (k:Int):=by omega
   have c3:(k:Int)≤((k+w.length:Nat):Int):=by omega
   have c4:((k+w.length:Nat):Int)≤s.length:=by omega
   have hp:=slice_pre s w k h2 h
   simp only [go_sem,simprocAttr,beginsU,c0,c1,c2,c3,c4,w1,w2,h,S_size,S_ext,S_eqB,Int.toNat_natCast,hp]
  ·have c2:¬ (w.length:Int)≤(s.length:Int) - (k:Int):=by omega
   have hp:=pre_long (s.drop k) w (by rw [List.length_drop];exact h2)
   simp only [go_sem,simprocAttr,beginsU,c0,c1,c2,w1,h,S_size,hp]
 ·have c1:¬ (k:Int)≤s.length:=by omega
  simp only [go_sem,simprocAttr,beginsU,c0,c1,h,S_size]
end Nun
end
